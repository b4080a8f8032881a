/- vault: Lay, whole. Printed by tools/laygen.py. -/
import Derived.Test.YtpfoekfbcpinlaaGreatDoorFreeRow
import Derived.Deep.CutRange
import Derived.Deep.DeepCutAuto
namespace Go.Proofs.YtpfoekfbcpinlaaGreatDoor
open Go.RowKit
set_option linter.unusedVariables false

/-- A head of the call's own, and its row. -/
structure HJ (wc wx : World) (x y a b : Int) (hb lb : Nat) : Prop where
  xh : wx.heap[hb]? = some (.cells #[.int .i64 x, .int .i64 y, .int .i64 a, .slice (some ⟨lb, 0, none⟩) 1 1] 38 (0, 0))
  xl : wx.heap[lb]? = some (OT b)
  gh : wc.heap.size ≤ hb
  gl : wc.heap.size ≤ lb
  ne : hb ≠ lb
  bel : Below wc.heap.size wc wx
theorem set4x_at {W : World} {b : Nat} (x0 x1 x2 x3 : Value) (h : W.heap[b]? = some OZ) : ((((W.setCell ⟨b, 0, none⟩ x0).setCell ⟨b, 1, none⟩ x1).setCell ⟨b, 2, none⟩ x2).setCell ⟨b, 3, none⟩ x3).heap[b]? = some (.cells #[x0, x1, x2, x3] 38 (0, 0)) := box4 h _ _ _ _
theorem set4x_other {W : World} {b k : Nat} (x0 x1 x2 x3 : Value) (h : k ≠ b) : ((((W.setCell ⟨b, 0, none⟩ x0).setCell ⟨b, 1, none⟩ x1).setCell ⟨b, 2, none⟩ x2).setCell ⟨b, 3, none⟩ x3).heap[k]? = W.heap[k]? := by
  rw [Below.heap_setCell _ ⟨b, 3, none⟩ _ k h, Below.heap_setCell _ ⟨b, 2, none⟩ _ k h, Below.heap_setCell _ ⟨b, 1, none⟩ _ k h, Below.heap_setCell _ ⟨b, 0, none⟩ _ k h]
theorem set4x_below {B b : Nat} {a W : World} (x0 x1 x2 x3 : Value) (h : Below B a W) (hb : B ≤ b) : Below B a ((((W.setCell ⟨b, 0, none⟩ x0).setCell ⟨b, 1, none⟩ x1).setCell ⟨b, 2, none⟩ x2).setCell ⟨b, 3, none⟩ x3) :=
  (((h.setCell (p := ⟨b, 0, none⟩) hb _).setCell (p := ⟨b, 1, none⟩) hb _).setCell (p := ⟨b, 2, none⟩) hb _).setCell (p := ⟨b, 3, none⟩) hb _
section
variable {wc w3 : World} {x y a b : Int}
theorem hj1 (hb : Below wc.heap.size wc w3) : ∃ hb lb : Nat, Value.pointer (some ⟨w3.heap.size + 1, 0, none⟩) = .pointer (some ⟨hb, 0, none⟩) ∧ HJ wc ((w3.alloc (.cells #[.int .i64 b] 3)).alloc (.cells #[.int .i64 x, .int .i64 y, .int .i64 a, .slice (some ⟨w3.heap.size, 0, none⟩) 1 1] 38)) x y a b hb lb :=
  have := hb.size
  ⟨_, w3.heap.size, rfl, heap_second w3 _ _, heap_first w3 _ _, by omega, by omega, by omega, (hb.alloc hb.size _).alloc (by simp; omega) _⟩
theorem hj2 (hb : Below wc.heap.size wc w3) : ∃ hb lb : Nat, Value.pointer (some ⟨w3.heap.size, 0, none⟩) = .pointer (some ⟨hb, 0, none⟩) ∧ HJ wc ((w3.alloc (.cells #[.int .i64 x, .int .i64 y, .int .i64 a, .slice (some ⟨w3.heap.size + 1, 0, none⟩) 1 1] 38)).alloc (.cells #[.int .i64 b] 3)) x y a b hb lb :=
  have := hb.size
  ⟨_, w3.heap.size + 1, rfl, heap_first w3 _ _, heap_second w3 _ _, by omega, by omega, by omega, (hb.alloc hb.size _).alloc (by simp; omega) _⟩
theorem hj3 (hb : Below wc.heap.size wc w3) (z : w3.heap[wc.heap.size]? = some (.cells #[.int .i64 b] 3)) : ∃ hb lb : Nat, Value.pointer (some ⟨w3.heap.size, 0, none⟩) = .pointer (some ⟨hb, 0, none⟩) ∧ HJ wc (w3.alloc (.cells #[.int .i64 x, .int .i64 y, .int .i64 a, .slice (some ⟨wc.heap.size, 0, none⟩) 1 1] 38)) x y a b hb lb :=
  have := lt_of_block' z
  ⟨_, wc.heap.size, rfl, heap_alloc_new w3 _, (Below.heap_alloc w3 _ _ this).trans z, by omega, by omega, by omega, hb.alloc hb.size _⟩
theorem hj4 (hb : Below wc.heap.size wc w3) (z : w3.heap[wc.heap.size]? = some (.cells #[.int .i64 b] 3)) (z1 : w3.heap[wc.heap.size + 1]? = some (.cells #[.int .i64 0, .int .i64 0, .int .i64 0, .slice none 0 0] 38)) : ∃ hb lb : Nat, Value.pointer (some ⟨wc.heap.size + 1, 0, none⟩) = .pointer (some ⟨hb, 0, none⟩) ∧
    HJ wc ((((w3.setCell ⟨wc.heap.size + 1, 0, none⟩ (.int .i64 x)).setCell ⟨wc.heap.size + 1, 1, none⟩ (.int .i64 y)).setCell ⟨wc.heap.size + 1, 2, none⟩ (.int .i64 a)).setCell ⟨wc.heap.size + 1, 3, none⟩ (.slice (some ⟨wc.heap.size, 0, none⟩) 1 1)) x y a b hb lb :=
  ⟨_, wc.heap.size, rfl, set4x_at _ _ _ _ z1, (set4x_other _ _ _ _ (by omega)).trans z, by omega, by omega, by omega, set4x_below _ _ _ _ hb (by omega)⟩
theorem hj5 (hb : Below wc.heap.size wc w3) (z : w3.heap[wc.heap.size]? = some (.cells #[.int .i64 0, .int .i64 0, .int .i64 0, .slice none 0 0] 38)) : ∃ hb lb : Nat, Value.pointer (some ⟨wc.heap.size, 0, none⟩) = .pointer (some ⟨hb, 0, none⟩) ∧
    HJ wc (((((w3.setCell ⟨wc.heap.size, 0, none⟩ (.int .i64 x)).setCell ⟨wc.heap.size, 1, none⟩ (.int .i64 y)).setCell ⟨wc.heap.size, 2, none⟩ (.int .i64 a)).setCell ⟨wc.heap.size, 3, none⟩ (.slice (some ⟨w3.heap.size, 0, none⟩) 1 1)).alloc (.cells #[.int .i64 b] 3)) x y a b hb lb :=
  have hl := lt_of_block' z
  have hs := hb.size
  ⟨_, w3.heap.size, rfl, (Below.heap_alloc _ _ _ (by simp; omega)).trans (set4x_at _ _ _ _ z), by
    have := heap_alloc_new ((((w3.setCell ⟨wc.heap.size, 0, none⟩ (.int .i64 x)).setCell ⟨wc.heap.size, 1, none⟩ (.int .i64 y)).setCell ⟨wc.heap.size, 2, none⟩ (.int .i64 a)).setCell ⟨wc.heap.size, 3, none⟩ (.slice (some ⟨w3.heap.size, 0, none⟩) 1 1)) (OT b)
    simpa using this, by omega, by omega, by omega, (set4x_below _ _ _ _ hb (Nat.le_refl _)).alloc (by simp; omega) _⟩
theorem hj6 (hb : Below wc.heap.size wc w3) (z : w3.heap[wc.heap.size]? = some (.cells #[.int .i64 0, .int .i64 0, .int .i64 0, .slice none 0 0] 38)) (z1 : w3.heap[wc.heap.size + 1]? = some (.cells #[.int .i64 b] 3)) : ∃ hb lb : Nat, Value.pointer (some ⟨wc.heap.size, 0, none⟩) = .pointer (some ⟨hb, 0, none⟩) ∧
    HJ wc ((((w3.setCell ⟨wc.heap.size, 0, none⟩ (.int .i64 x)).setCell ⟨wc.heap.size, 1, none⟩ (.int .i64 y)).setCell ⟨wc.heap.size, 2, none⟩ (.int .i64 a)).setCell ⟨wc.heap.size, 3, none⟩ (.slice (some ⟨wc.heap.size + 1, 0, none⟩) 1 1)) x y a b hb lb :=
  ⟨_, wc.heap.size + 1, rfl, set4x_at _ _ _ _ z, (set4x_other _ _ _ _ (by omega)).trans z1, by omega, by omega, by omega, set4x_below _ _ _ _ hb (Nat.le_refl _)⟩
end
theorem infoFn2 : (Tryz.prog.info? 34).map (fun i => (i.zero, i.size, i.bytes)) = some (some .nilFunc, 1, 8) := by kernel_rfl
/-- The steps of Lay lie in block cb, as far as they are known ahead of the loop. -/
structure SJ (w7 wx : World) (v vb ab bb sb : Nat) (x y a b : Int) (lb cb pb hb : Nat) : Prop where
  xc : wx.heap[cb]? = some (.cells #[lfn v vb ab bb sb pb hb (fun _ => 0) 0, lfn v vb ab bb sb pb hb (fun _ => 0) 1, lfn v vb ab bb sb pb hb (fun _ => 0) 2, lfn v vb ab bb sb pb hb (fun _ => 0) 3, lfn v vb ab bb sb pb hb (fun _ => 0) 4, lfn v vb ab bb sb pb hb (fun _ => 0) 5, lfn v vb ab bb sb pb hb (fun _ => 0) 6] 34 (0, 0))
  xp : wx.heap[pb]? = some (.cells #[PB v] 30 (0, 0))
  xh : wx.heap[hb]? = some (.cells #[.int .i64 x, .int .i64 y, .int .i64 a, .slice (some ⟨lb, 0, none⟩) 1 1] 38 (0, 0))
  gc : w7.heap.size ≤ cb
  gp : w7.heap.size ≤ pb
  gh : w7.heap.size ≤ hb
  np : pb ≠ cb
  nh : hb ≠ cb
  bel : Below w7.heap.size w7 wx
theorem sj1 {w7 wq : World} {v vb ab bb sb lb : Nat} {x y a b : Int} (hq : wq = (w7.drew.alloc (.cells #[.pointer (some ⟨v, 0, none⟩)] 30)).alloc (.cells #[.int .i64 x, .int .i64 y, .int .i64 a, .slice (some ⟨lb, 0, none⟩) 1 1] 38)) :
    SJ w7 (wq.alloc (.cells #[lfn v vb ab bb sb w7.heap.size (w7.heap.size + 1) (fun _ => 0) 0, lfn v vb ab bb sb w7.heap.size (w7.heap.size + 1) (fun _ => 0) 1, lfn v vb ab bb sb w7.heap.size (w7.heap.size + 1) (fun _ => 0) 2, lfn v vb ab bb sb w7.heap.size (w7.heap.size + 1) (fun _ => 0) 3, lfn v vb ab bb sb w7.heap.size (w7.heap.size + 1) (fun _ => 0) 4, lfn v vb ab bb sb w7.heap.size (w7.heap.size + 1) (fun _ => 0) 5, lfn v vb ab bb sb w7.heap.size (w7.heap.size + 1) (fun _ => 0) 6] 34)) v vb ab bb sb x y a b lb wq.heap.size w7.heap.size (w7.heap.size + 1) := by
  have hz : wq.heap.size = w7.heap.size + 2 := by rw [hq]; simp
  have h1 : wq.heap[w7.heap.size]? = some (.cells #[PB v] 30 (0, 0)) := by rw [hq]; exact heap_first w7.drew _ _
  have h2 : wq.heap[w7.heap.size + 1]? = some (.cells #[.int .i64 x, .int .i64 y, .int .i64 a, .slice (some ⟨lb, 0, none⟩) 1 1] 38 (0, 0)) := by rw [hq]; exact heap_second w7.drew _ _
  have hb : Below w7.heap.size w7 wq := by rw [hq]; exact (((Below.refl _ w7).drew.alloc (Nat.le_refl _) _).alloc (by simp) _)
  exact ⟨heap_alloc_new wq _, (Below.heap_alloc wq _ _ (by omega)).trans h1, (Below.heap_alloc wq _ _ (by omega)).trans h2, by omega, Nat.le_refl _, by omega, by omega, by omega, hb.alloc hb.size _⟩
theorem oldT_FK (h : Hd.HV) : FK (fun t => !h.uses t) 30 = oldT h := by
  unfold FK oldT Hd.R
  simp
theorem lfn_congr (v vb ab bb sb pb hb : Nat) (f g : Nat → Nat) (n i : Nat) (h : ∀ j, j < n → f j = g j) (hi : i < 7 + n) : lfn v vb ab bb sb pb hb f i = lfn v vb ab bb sb pb hb g i := by
  match i, hi with
  | 0, _ => rfl
  | 1, _ => rfl
  | 2, _ => rfl
  | 3, _ => rfl
  | 4, _ => rfl
  | 5, _ => rfl
  | 6, _ => rfl
  | j + 7, hi =>
    show Value.func _ _ #[PB vb, PB (f j)] = Value.func _ _ #[PB vb, PB (g j)]
    rw [h j (by omega)]
/-- The steps that are appended: the loop. -/
structure LpI (wx wr : World) (F : (Nat → Nat) → Nat → Value) (cb : Nat) (U : Int → Bool) (k cbo cap tbx : Nat) (tbf : Nat → Nat) (cs : List Value) : Prop where
  box : wr.heap[tbx]? = some (OT ((k : Int) + 2))
  row : RK 1 wr (.slice (some ⟨cbo, 0, none⟩) (7 + (FK U k).length) cap) (7 + (FK U k).length) cs
  fns : ∀ i, i < 7 + (FK U k).length → cs[i]? = some (F tbf i)
  old : ∀ i, i < (FK U k).length → wr.heap[tbf i]? = some (OT ((FK U k).getD i 0)) ∧ wx.heap.size ≤ tbf i ∧ tbf i ≠ tbx ∧ tbf i ≠ cbo
  new : wx.heap.size ≤ tbx
  cbn : cbo = cb ∨ wx.heap.size ≤ cbo
  ne : tbx ≠ cbo
  chg : Chg wx wr cb
section
variable {wx wr : World} {F : (Nat → Nat) → Nat → Value} {cb : Nat} {U : Int → Bool} {k cbo cap tbx : Nat} {tbf : Nat → Nat} {cs : List Value}
theorem LpI.below {wu : World} (h : LpI wx wr F cb U k cbo cap tbx tbf cs) (hb : Below wr.heap.size wr wu) (hc : cb < wx.heap.size) : LpI wx wu F cb U k cbo cap tbx tbf cs :=
  ⟨(hb.block _ (lt_of_block' h.box)).trans h.box, h.row.below hb, h.fns, fun i hi => ⟨(hb.block _ (lt_of_block' (h.old i hi).1)).trans (h.old i hi).1, (h.old i hi).2⟩, h.new, h.cbn, h.ne, h.chg.trans (Chg.of_below hb cb)⟩
theorem LpI.skip (h : LpI wx wr F cb U k cbo cap tbx tbf cs) (hu : U ((k : Int) + 2) = true) : LpI wx (wr.alloc (OT ((k : Int) + 2 + 1))) F cb U (k + 1) cbo cap wr.heap.size tbf cs := by
  have hs : FK U (k + 1) = FK U k := by rw [FK_succ, if_pos hu, List.append_nil]
  have hz := h.chg.size
  have hbl := Below.refl wr.heap.size wr
  have hcl : cbo < wr.heap.size := by obtain ⟨q, c, hv, _, _, hq, _⟩ := h.row.at_ (by omega); simp only [Value.slice.injEq, Option.some.injEq, Addr.mk.injEq] at hv; omega
  refine ⟨?_, by rw [hs]; exact h.row.alloc _, by rw [hs]; exact h.fns, ?_, hz, h.cbn, by omega, h.chg.trans (Chg.alloc _ _ _)⟩
  · rw [show ((k + 1 : Nat) : Int) + 2 = (k : Int) + 2 + 1 from by omega]; exact heap_alloc_new wr _
  · rw [hs]
    intro i hi
    obtain ⟨a, b, c, d⟩ := h.old i hi
    have := lt_of_block' a
    exact ⟨(Below.heap_alloc _ _ _ this).trans a, b, by omega, d⟩
theorem LpI.used {wa : World} {c' : Nat} {a' : Option Addr} {o : Obj} (h : LpI wx wr F cb U k cbo cap tbx tbf cs) (hu : U ((k : Int) + 2) = false) (hF : ∀ f g n i, (∀ j, j < n → f j = g j) → i < 7 + n → F f i = F g i) (x : Value) (hx : ∀ f, F f (7 + (FK U k).length) = F (fun _ => f (FK U k).length) (7 + (FK U k).length)) (hx2 : x = F (fun _ => tbx) (7 + (FK U k).length))
    (r : RK 1 wa (.slice a' (7 + (FK U k).length + 1) c') (7 + (FK U k).length + 1) (cs ++ [x])) (g : (wr.alloc o).grownBy wa (blk (.slice (some ⟨cbo, 0, none⟩) (7 + (FK U k).length) cap))) (fr : Fresh (wr.alloc o) (.slice (some ⟨cbo, 0, none⟩) (7 + (FK U k).length) cap) (.slice a' (7 + (FK U k).length + 1) c')) (hcb : cb < wx.heap.size) :
    ∃ cbo2, a' = some ⟨cbo2, 0, none⟩ ∧ LpI wx (wa.alloc (OT ((k : Int) + 2 + 1))) F cb U (k + 1) cbo2 c' wa.heap.size (fun i => if i = (FK U k).length then tbx else tbf i) (cs ++ [x]) := by
  have hs : FK U (k + 1) = FK U k ++ [(k : Int) + 2] := by rw [FK_succ, if_neg (by rw [hu]; simp)]
  have hsl : (FK U (k + 1)).length = (FK U k).length + 1 := by rw [hs, List.length_append]; rfl
  obtain ⟨cb2, cp, hv, _, _, hcl2, hbk2⟩ := r.at_ (by omega)
  simp only [Value.slice.injEq] at hv
  obtain ⟨rfl, _, rfl⟩ := hv
  have hz := h.chg.size
  have hga := g.size
  have hsz : (wr.alloc o).heap.size = wr.heap.size + 1 := by simp
  have hbk : blk (.slice (some ⟨cbo, 0, none⟩) (7 + (FK U k).length) cap) = some cbo := by
    obtain ⟨q, c, hv, _, _, hq, hb⟩ := h.row.at_ (by omega)
    rw [hb]
    simp only [Value.slice.injEq, Option.some.injEq, Addr.mk.injEq] at hv
    rw [hv.1.1]
  rw [hbk] at g
  have hcl : cbo < wr.heap.size := by obtain ⟨q, c, hv, _, _, hq, _⟩ := h.row.at_ (by omega); simp only [Value.slice.injEq, Option.some.injEq, Addr.mk.injEq] at hv; omega
  have hblk : ∀ j, j < wr.heap.size → j ≠ cbo → wa.heap[j]? = wr.heap[j]? := fun j hj hne => (g.block j (by omega) (fun e => hne (Option.some.inj e))).trans (Below.heap_alloc wr o j hj)
  have hfr : cb2 = cbo ∨ wr.heap.size < cb2 := by
    rcases fr cb2 hbk2 with e | e
    · rw [hbk] at e; exact .inl (Option.some.inj e).symm
    · exact .inr (by omega)
  have hbt := lt_of_block' h.box
  refine ⟨cb2, rfl, ?_, ?_, ?_, ?_, by omega, ?_, by omega, ?_⟩
  · rw [show ((k + 1 : Nat) : Int) + 2 = (k : Int) + 2 + 1 from by omega]; exact heap_alloc_new wa _
  · rw [hsl]; exact r.alloc _
  · rw [hsl]
    intro i hi
    have hcl : cs.length = 7 + (FK U k).length := by have := h.row.1; omega
    have hag : ∀ j, j < (FK U k).length → (fun i => if i = (FK U k).length then tbx else tbf i) j = tbf j := fun j hj => if_neg (by omega)
    rcases Nat.lt_or_ge i (7 + (FK U k).length) with h1 | h1
    · rw [List.getElem?_append_left (by omega), h.fns i h1, hF _ _ _ _ hag h1]
    · obtain rfl : i = 7 + (FK U k).length := by omega
      rw [List.getElem?_append_right (by omega), hcl, Nat.sub_self, hx]
      simp only [if_true]
      rw [hx2]; rfl
  · rw [hsl]
    intro i hi
    have hg : (FK U (k + 1)).getD i 0 = if i = (FK U k).length then (k : Int) + 2 else (FK U k).getD i 0 := by
      rw [hs, List.getD_eq_getElem?_getD]
      by_cases e : i = (FK U k).length
      · rw [if_pos e, e, List.getElem?_append_right (Nat.le_refl _), Nat.sub_self]; rfl
      · rw [if_neg e, List.getElem?_append_left (by omega), List.getD_eq_getElem?_getD]
    rw [hg]
    by_cases e : i = (FK U k).length
    · simp only [if_pos e]
      exact ⟨(Below.heap_alloc _ _ _ (by omega)).trans ((hblk _ hbt h.ne).trans h.box), h.new, by omega, by have := h.ne; omega⟩
    · simp only [if_neg e]
      obtain ⟨a, b, c, d⟩ := h.old i (by omega)
      have hl := lt_of_block' a
      exact ⟨(Below.heap_alloc _ _ _ (by omega)).trans ((hblk _ hl d).trans a), b, by omega, by omega⟩
  · rcases hfr with e | e
    · rw [e]; exact h.cbn
    · exact .inr (by omega)
  · refine ⟨g.os.trans h.chg.os, g.tape.trans h.chg.tape, g.output.trans h.chg.output, by simp; omega, fun j hj hne => ?_⟩
    have hj1 : j ≠ cbo := by
      rcases h.cbn with e | e
      · rw [e]; exact fun e' => hne (by rw [e'])
      · omega
    exact (Below.heap_alloc _ _ _ (by omega)).trans ((hblk j (by omega) hj1).trans (h.chg.block j hj hne))
end
theorem LpI.old9 {wx wr wa : World} {F : (Nat → Nat) → Nat → Value} {cb : Nat} {U : Int → Bool} {k cbo cap tbx : Nat} {tbf : Nat → Nat} {cs : List Value} {o : Obj} (h : LpI wx wr F cb U k cbo cap tbx tbf cs) (g : (wr.alloc o).grownBy wa (blk (.slice (some ⟨cbo, 0, none⟩) (7 + (FK U k).length) cap))) : wa.heap[tbx]? = some (OT ((k : Int) + 2)) := by
  have hbk : blk (.slice (some ⟨cbo, 0, none⟩) (7 + (FK U k).length) cap) = some cbo := by
    obtain ⟨q, c, hv, _, _, hq, hb⟩ := h.row.at_ (by omega)
    rw [hb]
    simp only [Value.slice.injEq, Option.some.injEq, Addr.mk.injEq] at hv
    rw [hv.1.1]
  rw [hbk] at g
  have hl := lt_of_block' h.box
  exact (g.block tbx (by simp; omega) (fun e => h.ne (Option.some.inj e))).trans ((Below.heap_alloc wr o tbx hl).trans h.box)
def leftP (v : Value) (W : World) : Nat := match v with | .pointer (some a) => leftAt a.block 32 W | _ => 0
set_option maxRecDepth 20000 in
set_option maxHeartbeats 1000000 in
theorem Lay_no (g v : Nat) (D : DiskV) (q : HdV) (m : Int) (n : Nat) (s : ByteArray) (w : World) (h : VS w g v D q m n) (hm : q.hv.may = true) (hn : n ≤ 1000000000000) (hs : s.size ≤ 140737488351000)
    (hno : 262144 < s.size ∨ 1099511627776 < q.hv.base + n ∨ D.down = true ∨ 1099511627776 ≤ q.hv.gen ∨ q.hv.free.length < 2) :
    Calls Tryz.prog 21 #[.pointer (some ⟨v, 0, none⟩), .string s] w fun e w' => e = .returned (.int .i64 (layV D q.hv n s).1) ∧ (∃ p' : HdV, p'.hv = (layV D q.hv n s).2.2.1 ∧ VS w' g v (layV D q.hv n s).2.1 p' m (layV D q.hv n s).2.2.2 ∧ ∀ k, blk (.slice p'.lo p'.ll p'.lc) = some k → blk (.slice q.lo q.ll q.lc) = some k ∨ w.heap.size ≤ k) ∧ Ch2 w w' g v := by
  have hbx := heap_alloc_new w (.cells #[.pointer (some ⟨v, 0, none⟩)] 30)
  have HX := Kp.mk hbx
  have B1 : Below w.heap.size w (w.alloc (.cells #[.pointer (some ⟨v, 0, none⟩)] 30)) := (Below.refl _ _).alloc (Nat.le_refl _) _
  have HB1 := Kp.mk B1
  have k0 := one_cell hbx
  have S1 := h.below B1
  have HS := Kp.mk h
  have HS1 := Kp.mk S1
  have HM := Kp.mk hm
  have hb := Hd.may_first hm
  have hbase : q.hv.base = q.base := rfl
  have hgen : q.hv.gen = q.gen := rfl
  have HC := Kp.mk (Count_any g v D q m n _ S1 (by have := hb.2.2.1; rw [hbase] at this; exact this) (by have := hb.2.2.2.1; rw [hbase] at this; omega))
  have HDr : Kp (∀ k, Below w.heap.size w ((w.alloc (.cells #[.pointer (some ⟨v, 0, none⟩)] 30)).drewN k)) := ⟨fun k => ⟨B1.os, B1.tape, B1.output, B1.size, B1.block⟩⟩
  have HbB : Kp (0 ≤ q.base ∧ q.base ≤ 1099511627776 ∧ 1 ≤ q.gen ∧ q.gen ≤ 1099511627776) := ⟨by rw [← hbase, ← hgen]; exact ⟨hb.2.2.1, hb.2.2.2.1, hb.1, hb.2.1⟩⟩
  clear h hm hb S1 hbx B1
  by_cases hbig : 262144 < s.size
  · have hV : Kp (layV D q.hv n s = (40, D, q.hv, n)) := ⟨by unfold layV; rw [if_pos (.inl hbig)]⟩
    have i1 : decide ((262144 : Int) < (s.size : Int)) = true := by rw [decide_eq_true_eq]; omega
    clear hbase hgen hno
    go_enter Tryz.func21, Tryz.ntmps21
    go_wp2
    go_ret
    exact ⟨by rw [hV.out] <;> rfl, ⟨q, by rw [hV.out], by rw [hV.out]; exact HS.out.below (HB1.out), fun k hk => .inl hk⟩, Ch2.of_below (HB1.out) g v⟩
  have i1 : decide ((262144 : Int) < (s.size : Int)) = false := by rw [decide_eq_false_iff_not]; omega
  by_cases hcount : 1099511627776 < q.base + n
  · have hV : Kp (layV D q.hv n s = (40, D, q.hv, n)) := ⟨by unfold layV; rw [if_pos (.inr (by rw [hbase]; exact hcount))]⟩
    have i2 : decide ((1099511627776 : Int) < q.base + n) = true := by rw [decide_eq_true_eq]; exact hcount
    clear hbase hgen hno
    go_enter Tryz.func21, Tryz.ntmps21
    go_wp2_with fail
    refine HC.out.mono ?_
    rintro e w1 ⟨rfl, k, rfl⟩
    go_wp2
    go_ret
    exact ⟨by rw [hV.out] <;> rfl, ⟨q, by rw [hV.out], by rw [hV.out]; exact HS.out.below (HDr.out k), fun k hk => .inl hk⟩, Ch2.of_below (HDr.out k) g v⟩
  have i2 : decide ((1099511627776 : Int) < q.base + n) = false := by rw [decide_eq_false_iff_not]; exact hcount
  have hV0 : layV D q.hv n s = if D.down = true then (45, D, q.hv, n) else if 1099511627776 ≤ q.gen then (40, D, q.hv, n) else if q.hv.free.length < 2 then (44, D, q.hv, n) else
      if D.cap < layU D q.hv (snapB s) ∨ D.cap < layU D q.hv (snapB s) - sizeF D (freeT2 q.hv).toNat - sizeF D (Hd.otherV D) + HSize (layH q.hv n) then (44, D, q.hv, n) else layG D q.hv n (snapB s) := by
    unfold layV; rw [if_neg (by rintro (h | h); exact hbig h; rw [hbase] at h; exact hcount h), hgen]
  have HU := Kp.mk (fun k => Up_any g D ((w.alloc (.cells #[.pointer (some ⟨v, 0, none⟩)] 30)).drewN k) (HS1.out.drewN k).disk)
  have kv := fun k => (HS1.out.drewN k).vlt.c0
  have kg := fun k => (HS1.out.drewN k).vlt.c1
  have kx : ∀ k, ((w.alloc (.cells #[.pointer (some ⟨v, 0, none⟩)] 30)).drewN k).cell? ⟨w.heap.size, 0, none⟩ = some (.pointer (some ⟨v, 0, none⟩)) := fun k => k0
  by_cases hd : D.down = true
  · have hV : Kp (layV D q.hv n s = (45, D, q.hv, n)) := ⟨by rw [hV0, if_pos hd]⟩
    rw [hd] at HU
    clear hbase hgen hno hV0 hd
    go_enter Tryz.func21, Tryz.ntmps21
    go_wp2_with fail
    refine HC.out.mono ?_
    rintro e w1 ⟨rfl, k, rfl⟩
    have kx1 := kx k
    have kv1 := kv k
    go_wp2_with fail
    refine (HU.out k).mono ?_
    rintro e w1 ⟨rfl, rfl⟩
    go_wp2
    go_ret
    exact ⟨by rw [hV.out] <;> rfl, ⟨q, by rw [hV.out], by rw [hV.out]; exact HS.out.below (HDr.out k), fun k hk => .inl hk⟩, Ch2.of_below (HDr.out k) g v⟩
  have hd' : D.down = false := by simpa using hd
  rw [hd'] at HU
  by_cases hgb : 1099511627776 ≤ q.gen
  · have hV : Kp (layV D q.hv n s = (40, D, q.hv, n)) := ⟨by rw [hV0, if_neg hd, if_pos hgb]⟩
    have i3 : decide ((1099511627776 : Int) ≤ q.gen) = true := by rw [decide_eq_true_eq]; exact hgb
    clear hbase hgen hno hV0 hd hd' hgb
    go_enter Tryz.func21, Tryz.ntmps21
    go_wp2_with fail
    refine HC.out.mono ?_
    rintro e w1 ⟨rfl, k, rfl⟩
    have kx1 := kx k
    have kv1 := kv k
    have kg1 := kg k
    go_wp2_with fail
    refine (HU.out k).mono ?_
    rintro e w1 ⟨rfl, rfl⟩
    go_wp2
    go_ret
    exact ⟨by rw [hV.out] <;> rfl, ⟨q, by rw [hV.out], by rw [hV.out]; exact HS.out.below (HDr.out k), fun k hk => .inl hk⟩, Ch2.of_below (HDr.out k) g v⟩
  have i3 : decide ((1099511627776 : Int) ≤ q.gen) = false := by rw [decide_eq_false_iff_not]; exact hgb
  have hfr : q.hv.free.length < 2 := by rcases hno with h | h | h | h | h; exact absurd h hbig; exact absurd (by rw [hbase] at h; exact h) hcount; exact absurd h hd; exact absurd (by rw [hgen] at h; exact h) hgb; exact h
  have hV : Kp (layV D q.hv n s = (44, D, q.hv, n)) := ⟨by rw [hV0, if_neg hd, if_neg hgb, if_pos hfr]⟩
  have HF := Kp.mk (fun W (hW : Below w.heap.size w W) => Free_any q W (by have := HS.out.vlt.few; unfold maxLen; omega) (HS.out.below hW).vlt.at'.row)
  unfold HdV.v at HF
  have kb := fun k => (HS1.out.drewN k).vlt.c2
  have ks := fun k => (HS1.out.drewN k).vlt.c3
  have kl := fun k => (HS1.out.drewN k).vlt.c4
  clear hbase hgen hno hV0 hd hd' hgb
  go_enter Tryz.func21, Tryz.ntmps21
  go_wp2_with fail
  refine HC.out.mono ?_
  rintro e w1 ⟨rfl, k, rfl⟩
  have kx1 := kx k
  have kv1 := kv k
  have kg1 := kg k
  have kb1 := kb k
  have ks1 := ks k
  have kl1 := kl k
  go_wp2_with fail
  refine (HU.out k).mono ?_
  rintro e w1 ⟨rfl, rfl⟩
  go_wp2_with fail
  refine (HF.out _ (HDr.out k)).mono ?_
  rintro e w2 ⟨fo, fn, fc, fg, rfl, hrow, hints, b2⟩
  have hfn : fn < 2 := by have := congrArg List.length hrow; rw [rowI_len] at this; omega
  have i4 : decide ((fn : Int) < 2) = true := by rw [decide_eq_true_eq]; omega
  have HB2 := Kp.mk ((HDr.out k).trans (b2.mono (HDr.out k).size))
  clear hrow hints b2 HF
  go_wp2
  go_ret
  exact ⟨by rw [hV.out] <;> rfl, ⟨q, by rw [hV.out], by rw [hV.out]; exact HS.out.below (HB2.out), fun k hk => .inl hk⟩, Ch2.of_below (HB2.out) g v⟩
set_option maxRecDepth 20000 in
set_option maxHeartbeats 4000000 in
theorem Lay_go (g v : Nat) (D : DiskV) (q : HdV) (m : Int) (n : Nat) (s : ByteArray) (w : World) (h : VS w g v D q m n) (hm : q.hv.may = true) (hn : n ≤ 1000000000000) (hs : s.size ≤ 140737488351000)
    (hbig : ¬ 262144 < s.size) (hcount : ¬ 1099511627776 < q.hv.base + n) (hd : D.down = false) (hgb : ¬ 1099511627776 ≤ q.hv.gen) (hfr : ¬ q.hv.free.length < 2) :
    Calls Tryz.prog 21 #[.pointer (some ⟨v, 0, none⟩), .string s] w fun e w' => e = .returned (.int .i64 (layV D q.hv n s).1) ∧ (∃ p' : HdV, p'.hv = (layV D q.hv n s).2.2.1 ∧ VS w' g v (layV D q.hv n s).2.1 p' m (layV D q.hv n s).2.2.2 ∧ ∀ k, blk (.slice p'.lo p'.ll p'.lc) = some k → blk (.slice q.lo q.ll q.lc) = some k ∨ w.heap.size ≤ k) ∧ Ch2 w w' g v := by
  have hbx := heap_alloc_new w (.cells #[.pointer (some ⟨v, 0, none⟩)] 30)
  have HX := Kp.mk hbx
  have B1 : Below w.heap.size w (w.alloc (.cells #[.pointer (some ⟨v, 0, none⟩)] 30)) := (Below.refl _ _).alloc (Nat.le_refl _) _
  have HB1 := Kp.mk B1
  have k0 := one_cell hbx
  have S1 := h.below B1
  have HS := Kp.mk h
  have HS1 := Kp.mk S1
  have HM := Kp.mk hm
  have hb := Hd.may_first hm
  have hbase : q.hv.base = q.base := rfl
  have hgen : q.hv.gen = q.gen := rfl
  have HC := Kp.mk (Count_any g v D q m n _ S1 (by have := hb.2.2.1; rw [hbase] at this; exact this) (by have := hb.2.2.2.1; rw [hbase] at this; omega))
  have HDr : Kp (∀ k, Below w.heap.size w ((w.alloc (.cells #[.pointer (some ⟨v, 0, none⟩)] 30)).drewN k)) := ⟨fun k => ⟨B1.os, B1.tape, B1.output, B1.size, B1.block⟩⟩
  have HbB : Kp (0 ≤ q.base ∧ q.base ≤ 1099511627776 ∧ 1 ≤ q.gen ∧ q.gen ≤ 1099511627776) := ⟨by rw [← hbase, ← hgen]; exact ⟨hb.2.2.1, hb.2.2.2.1, hb.1, hb.2.1⟩⟩
  clear h hm hb S1 hbx B1
  have i1 : decide ((262144 : Int) < (s.size : Int)) = false := by rw [decide_eq_false_iff_not]; omega
  have i2 : decide ((1099511627776 : Int) < q.base + n) = false := by rw [decide_eq_false_iff_not, ← hbase]; exact hcount
  have i3 : decide ((1099511627776 : Int) ≤ q.gen) = false := by rw [decide_eq_false_iff_not, ← hgen]; exact hgb
  have hV : Kp (layV D q.hv n s = if D.cap < layU D q.hv (snapB s) ∨ D.cap < layU D q.hv (snapB s) - sizeF D (freeT2 q.hv).toNat - sizeF D (Hd.otherV D) + HSize (layH q.hv n) then (44, D, q.hv, n) else layG D q.hv n (snapB s)) := ⟨by
    unfold layV; rw [if_neg (fun h => h.elim hbig hcount), if_neg (by rw [hd]; simp), if_neg hgb, if_neg hfr]⟩
  have HU := Kp.mk (fun k => Up_any g D ((w.alloc (.cells #[.pointer (some ⟨v, 0, none⟩)] 30)).drewN k) (HS1.out.drewN k).disk)
  rw [hd] at HU
  have kv := fun k => (HS1.out.drewN k).vlt.c0
  have kg := fun k => (HS1.out.drewN k).vlt.c1
  have kb := fun k => (HS1.out.drewN k).vlt.c2
  have ks := fun k => (HS1.out.drewN k).vlt.c3
  have kl := fun k => (HS1.out.drewN k).vlt.c4
  have kx : ∀ k, ((w.alloc (.cells #[.pointer (some ⟨v, 0, none⟩)] 30)).drewN k).cell? ⟨w.heap.size, 0, none⟩ = some (.pointer (some ⟨v, 0, none⟩)) := fun k => k0
  have HF := Kp.mk (fun k => Free_row q ((w.alloc (.cells #[.pointer (some ⟨v, 0, none⟩)] 30)).drewN k) (by have := HS.out.vlt.few; unfold maxLen; omega) (HS1.out.drewN k).vlt.at'.row)
  unfold HdV.v at HF
  obtain ⟨a, b, ha, hb, ha2, ha32, hb2, hb32, hfne⟩ := free_in2 hfr
  have hfl : Kp (q.hv.free.length ≤ 30) := ⟨by have h2 := Hd.parted q.hv HM.out; omega⟩
  have hca : Kp ((q.hv.free.map fun x => Value.int .i64 x)[0]? = some (.int .i64 a) ∧ (q.hv.free.map fun x => Value.int .i64 x)[1]? = some (.int .i64 b)) := ⟨by
    unfold freeT at ha
    unfold freeT2 at hb
    rw [List.getElem?_map, List.getElem?_map]
    constructor
    · rw [← ha]
      cases hq : q.hv.free with
      | nil => exact absurd hq hfne
      | cons x r => rfl
    · rw [← hb, List.getD_eq_getElem?_getD, List.getElem?_eq_getElem (show 1 < q.hv.free.length by omega)]
      rfl⟩
  have HA := Kp.mk ha
  have HBb := Kp.mk hb
  obtain ⟨fn, hfn⟩ : ∃ fn, fn = q.hv.free.length := ⟨_, rfl⟩
  rw [← hfn] at HF hfr hfl
  generalize (q.hv.free.map fun x => Value.int .i64 x) = FV at HF hca
  have i4 : decide ((fn : Int) < 2) = false := by rw [decide_eq_false_iff_not]; omega
  clear hbase hgen hgb hcount ha hb hfne hfn
  go_enter Tryz.func21, Tryz.ntmps21
  go_wp2_with fail
  refine HC.out.mono ?_
  rintro e w1 ⟨rfl, k, rfl⟩
  have kx1 := kx k
  have kv1 := kv k
  have kg1 := kg k
  have kb1 := kb k
  have ks1 := ks k
  have kl1 := kl k
  go_wp2_with fail
  refine (HU.out k).mono ?_
  rintro e w1 ⟨rfl, rfl⟩
  go_wp2_with fail
  refine (HF.out k).mono ?_
  rintro e w2 ⟨fo, fc, rfl, hrow, hnew, b2⟩
  obtain ⟨fb, fcp, hfv, _, _, hfbl, hfbk⟩ := hrow.at_ (by omega)
  have hfbn := hnew _ hfbk
  simp only [Value.slice.injEq] at hfv
  obtain ⟨rfl, _, rfl⟩ := hfv
  have HB2 := Kp.mk ((HDr.out k).trans (b2.mono (HDr.out k).size))
  have HX2 : Kp (w2.heap[w.heap.size]? = some (.cells #[.pointer (some ⟨v, 0, none⟩)] 30 (0, 0))) := ⟨(b2.block _ (by show w.heap.size < (w.alloc _).heap.size; simp)).trans HX.out⟩
  have HZ : Kp (v < w.heap.size ∧ w.heap.size < fb ∧ fb < w2.heap.size) := ⟨HS.out.vlt.lt, by have h1 : (w.alloc (.cells #[.pointer (some ⟨v, 0, none⟩)] 30)).heap.size ≤ fb := hfbn; simp at h1; omega, hfbl⟩
  have HK : Kp (∀ W, Below w2.heap.size w2 W → W.cell? ⟨w.heap.size, 0, none⟩ = some (.pointer (some ⟨v, 0, none⟩)) ∧ W.cell? ⟨fb, 0, none⟩ = some (.int .i64 a) ∧ W.cell? ⟨fb, 1, none⟩ = some (.int .i64 b) ∧ W.cell? ⟨v, 0, none⟩ = some (.pointer (some ⟨g, 0, none⟩))) := ⟨fun W hW => ⟨one_cell ((hW.block _ (lt_of_block' HX2.out)).trans HX2.out), (hrow.below hW).cell 0 _ hca.out.1, (hrow.below hW).cell 1 _ hca.out.2, (HS.out.below (HB2.out.trans (hW.mono HB2.out.size))).vlt.c0⟩⟩
  have HBy := Kp.mk (fun W (hW : Below w.heap.size w W) => (bytes_any g D W (HS.out.below hW).disk HS.out.ok))
  obtain ⟨s0, s1, s2, s3⟩ := HK.out w2 (Below.refl _ _)
  clear hrow hnew b2 HF kx kv kg kb ks kl kx1 kv1 kg1 kb1 ks1 kl1 HC HU hca hfbn hfbk k0 hfbl
  go_upto_region 12 with fail
  go_cut [6, 7, 8] from 50 to 60 (fun t6 t7 t8 wx => ∃ (ab bb : Nat) (no : Option Addr) (nc : Nat), t6 = .pointer (some ⟨ab, 0, none⟩) ∧ t7 = .pointer (some ⟨bb, 0, none⟩) ∧ t8 = .slice no 32 nc ∧ LJ w2 wx a b ab bb no nc (sizeF D))
  case first =>
      have hzb := HZ.out
      have j0 : (0 : Int) < (fn : Int) := by omega
      have j1 : (1 : Int) < (fn : Int) := by omega
      have j0n : 0 < fn := by omega
      have j1n : 1 < fn := by omega
      have d200 : ¬ w.heap.size = w2.heap.size := (by omega)
      have d200x : ¬ w2.heap.size = w.heap.size := (by omega)
      have d201 : ¬ w.heap.size = w2.heap.size + 1 := (by omega)
      have d201x : ¬ w2.heap.size + 1 = w.heap.size := (by omega)
      have d210 : ¬ fb = w2.heap.size := (by omega)
      have d210x : ¬ w2.heap.size = fb := (by omega)
      have d211 : ¬ fb = w2.heap.size + 1 := (by omega)
      have d211x : ¬ w2.heap.size + 1 = fb := (by omega)
      have d220 : ¬ v = w2.heap.size := (by omega)
      have d220x : ¬ w2.heap.size = v := (by omega)
      have d221 : ¬ v = w2.heap.size + 1 := (by omega)
      have d221x : ¬ w2.heap.size + 1 = v := (by omega)
      have o0a : ∀ o, (w2.alloc o).cell? ⟨w.heap.size, 0, none⟩ = some (.pointer (some ⟨v, 0, none⟩)) := (fun o => by rw [World.cell?_alloc_lt _ _ _ (by show w.heap.size < w2.heap.size; omega)]; exact s0)
      have o0b : ∀ o1 o2, ((w2.alloc o1).alloc o2).cell? ⟨w.heap.size, 0, none⟩ = some (.pointer (some ⟨v, 0, none⟩)) := (fun o1 o2 => by rw [World.cell?_alloc_lt _ _ _ (by simp; omega)]; exact o0a o1)
      have o1a : ∀ o, (w2.alloc o).cell? ⟨fb, 0, none⟩ = some (.int .i64 a) := (fun o => by rw [World.cell?_alloc_lt _ _ _ (by show fb < w2.heap.size; omega)]; exact s1)
      have o1b : ∀ o1 o2, ((w2.alloc o1).alloc o2).cell? ⟨fb, 0, none⟩ = some (.int .i64 a) := (fun o1 o2 => by rw [World.cell?_alloc_lt _ _ _ (by simp; omega)]; exact o1a o1)
      have o2a : ∀ o, (w2.alloc o).cell? ⟨fb, 1, none⟩ = some (.int .i64 b) := (fun o => by rw [World.cell?_alloc_lt _ _ _ (by show fb < w2.heap.size; omega)]; exact s2)
      have o2b : ∀ o1 o2, ((w2.alloc o1).alloc o2).cell? ⟨fb, 1, none⟩ = some (.int .i64 b) := (fun o1 o2 => by rw [World.cell?_alloc_lt _ _ _ (by simp; omega)]; exact o2a o1)
      have o3a : ∀ o, (w2.alloc o).cell? ⟨v, 0, none⟩ = some (.pointer (some ⟨g, 0, none⟩)) := (fun o => by rw [World.cell?_alloc_lt _ _ _ (by show v < w2.heap.size; omega)]; exact s3)
      have o3b : ∀ o1 o2, ((w2.alloc o1).alloc o2).cell? ⟨v, 0, none⟩ = some (.pointer (some ⟨g, 0, none⟩)) := (fun o1 o2 => by rw [World.cell?_alloc_lt _ _ _ (by simp; omega)]; exact o3a o1)
      go_region_held3 (fun w' => w'.cell? ⟨w.heap.size, 0, none⟩ = some (.pointer (some ⟨v, 0, none⟩)) ∧ w'.cell? ⟨fb, 0, none⟩ = some (.int .i64 a) ∧ w'.cell? ⟨fb, 1, none⟩ = some (.int .i64 b) ∧ w'.cell? ⟨v, 0, none⟩ = some (.pointer (some ⟨g, 0, none⟩))) (go_keep) (first
        | (go_at_call 46; refine (HBy.out w2.drew HB2.out.drew).mono ?_; rintro e w3 ⟨no, nc, rfl, hr3, hn3⟩; have b3 := hn3.below; have hb3 : Below w2.heap.size w2 w3 := ((Below.refl w2.heap.size w2).drew.trans (b3.mono (by simp; try omega))); have hnw : ∀ k, blk (.slice no 32 nc) = some k → w2.heap.size ≤ k := (fun k hk => by have := hn3.new k hk; simp at this; omega); have hz3 : w2.heap.size ≤ w3.heap.size := hb3.size; have hzb := HZ.out; obtain ⟨s0, s1, s2, s3⟩ := HK.out w3 hb3; have d300 : ¬ w.heap.size = w3.heap.size := (by omega); have d300x : ¬ w3.heap.size = w.heap.size := (by omega); have d301 : ¬ w.heap.size = w3.heap.size + 1 := (by omega); have d301x : ¬ w3.heap.size + 1 = w.heap.size := (by omega); have d310 : ¬ fb = w3.heap.size := (by omega); have d310x : ¬ w3.heap.size = fb := (by omega); have d311 : ¬ fb = w3.heap.size + 1 := (by omega); have d311x : ¬ w3.heap.size + 1 = fb := (by omega); have d320 : ¬ v = w3.heap.size := (by omega); have d320x : ¬ w3.heap.size = v := (by omega); have d321 : ¬ v = w3.heap.size + 1 := (by omega); have d321x : ¬ w3.heap.size + 1 = v := (by omega); have p0a : ∀ o, (w3.alloc o).cell? ⟨w.heap.size, 0, none⟩ = some (.pointer (some ⟨v, 0, none⟩)) := (fun o => by rw [World.cell?_alloc_lt _ _ _ (by show w.heap.size < w3.heap.size; omega)]; exact s0); have p0b : ∀ o1 o2, ((w3.alloc o1).alloc o2).cell? ⟨w.heap.size, 0, none⟩ = some (.pointer (some ⟨v, 0, none⟩)) := (fun o1 o2 => by rw [World.cell?_alloc_lt _ _ _ (by simp; omega)]; exact p0a o1); have p1a : ∀ o, (w3.alloc o).cell? ⟨fb, 0, none⟩ = some (.int .i64 a) := (fun o => by rw [World.cell?_alloc_lt _ _ _ (by show fb < w3.heap.size; omega)]; exact s1); have p1b : ∀ o1 o2, ((w3.alloc o1).alloc o2).cell? ⟨fb, 0, none⟩ = some (.int .i64 a) := (fun o1 o2 => by rw [World.cell?_alloc_lt _ _ _ (by simp; omega)]; exact p1a o1); have p2a : ∀ o, (w3.alloc o).cell? ⟨fb, 1, none⟩ = some (.int .i64 b) := (fun o => by rw [World.cell?_alloc_lt _ _ _ (by show fb < w3.heap.size; omega)]; exact s2); have p2b : ∀ o1 o2, ((w3.alloc o1).alloc o2).cell? ⟨fb, 1, none⟩ = some (.int .i64 b) := (fun o1 o2 => by rw [World.cell?_alloc_lt _ _ _ (by simp; omega)]; exact p2a o1); have p3a : ∀ o, (w3.alloc o).cell? ⟨v, 0, none⟩ = some (.pointer (some ⟨g, 0, none⟩)) := (fun o => by rw [World.cell?_alloc_lt _ _ _ (by show v < w3.heap.size; omega)]; exact s3); have p3b : ∀ o1 o2, ((w3.alloc o1).alloc o2).cell? ⟨v, 0, none⟩ = some (.pointer (some ⟨g, 0, none⟩)) := (fun o1 o2 => by rw [World.cell?_alloc_lt _ _ _ (by simp; omega)]; exact p3a o1); have q1 : ∀ o1 o2 j, ((w3.alloc o1).alloc o2).cell? ⟨w3.heap.size, j, none⟩ = (w3.alloc o1).cell? ⟨w3.heap.size, j, none⟩ := (fun o1 o2 j => by rw [World.cell?_alloc_lt _ _ _ (by simp)]); have q2 : ∀ o1 o2 j, ((w3.alloc o1).alloc o2).frozen? ⟨w3.heap.size, j, none⟩ = (w3.alloc o1).frozen? ⟨w3.heap.size, j, none⟩ := (fun o1 o2 j => World.frozen?_of_block (Below.heap_alloc (w3.alloc o1) o2 _ (by simp))))
        | (go_at_call 46; refine (HBy.out (w2.alloc (.cells #[.int .i64 0] 3)).drew (HB2.out.alloc HB2.out.size _).drew).mono ?_; rintro e w3 ⟨no, nc, rfl, hr3, hn3⟩; have b3 := hn3.below; have hb3 : Below w2.heap.size w2 w3 := (((Below.refl w2.heap.size w2).alloc (Nat.le_refl _) _).drew.trans (b3.mono (by simp; try omega))); have hnw : ∀ k, blk (.slice no 32 nc) = some k → w2.heap.size + 1 ≤ k := (fun k hk => by have := hn3.new k hk; simp at this; omega); have hz3 : w2.heap.size ≤ w3.heap.size := hb3.size; have hzb := HZ.out; obtain ⟨s0, s1, s2, s3⟩ := HK.out w3 hb3; have d300 : ¬ w.heap.size = w3.heap.size := (by omega); have d300x : ¬ w3.heap.size = w.heap.size := (by omega); have d301 : ¬ w.heap.size = w3.heap.size + 1 := (by omega); have d301x : ¬ w3.heap.size + 1 = w.heap.size := (by omega); have d310 : ¬ fb = w3.heap.size := (by omega); have d310x : ¬ w3.heap.size = fb := (by omega); have d311 : ¬ fb = w3.heap.size + 1 := (by omega); have d311x : ¬ w3.heap.size + 1 = fb := (by omega); have d320 : ¬ v = w3.heap.size := (by omega); have d320x : ¬ w3.heap.size = v := (by omega); have d321 : ¬ v = w3.heap.size + 1 := (by omega); have d321x : ¬ w3.heap.size + 1 = v := (by omega); have p0a : ∀ o, (w3.alloc o).cell? ⟨w.heap.size, 0, none⟩ = some (.pointer (some ⟨v, 0, none⟩)) := (fun o => by rw [World.cell?_alloc_lt _ _ _ (by show w.heap.size < w3.heap.size; omega)]; exact s0); have p0b : ∀ o1 o2, ((w3.alloc o1).alloc o2).cell? ⟨w.heap.size, 0, none⟩ = some (.pointer (some ⟨v, 0, none⟩)) := (fun o1 o2 => by rw [World.cell?_alloc_lt _ _ _ (by simp; omega)]; exact p0a o1); have p1a : ∀ o, (w3.alloc o).cell? ⟨fb, 0, none⟩ = some (.int .i64 a) := (fun o => by rw [World.cell?_alloc_lt _ _ _ (by show fb < w3.heap.size; omega)]; exact s1); have p1b : ∀ o1 o2, ((w3.alloc o1).alloc o2).cell? ⟨fb, 0, none⟩ = some (.int .i64 a) := (fun o1 o2 => by rw [World.cell?_alloc_lt _ _ _ (by simp; omega)]; exact p1a o1); have p2a : ∀ o, (w3.alloc o).cell? ⟨fb, 1, none⟩ = some (.int .i64 b) := (fun o => by rw [World.cell?_alloc_lt _ _ _ (by show fb < w3.heap.size; omega)]; exact s2); have p2b : ∀ o1 o2, ((w3.alloc o1).alloc o2).cell? ⟨fb, 1, none⟩ = some (.int .i64 b) := (fun o1 o2 => by rw [World.cell?_alloc_lt _ _ _ (by simp; omega)]; exact p2a o1); have p3a : ∀ o, (w3.alloc o).cell? ⟨v, 0, none⟩ = some (.pointer (some ⟨g, 0, none⟩)) := (fun o => by rw [World.cell?_alloc_lt _ _ _ (by show v < w3.heap.size; omega)]; exact s3); have p3b : ∀ o1 o2, ((w3.alloc o1).alloc o2).cell? ⟨v, 0, none⟩ = some (.pointer (some ⟨g, 0, none⟩)) := (fun o1 o2 => by rw [World.cell?_alloc_lt _ _ _ (by simp; omega)]; exact p3a o1); have y1 := (b3.block w2.heap.size (by simp; try omega)).trans (heap_alloc_new w2 (.cells #[.int .i64 0] 3)); have y2 := one_cell y1; have y3 : w3.frozen? ⟨w2.heap.size, 0, none⟩ = false := (by simp [World.frozen?, y1]); have yll : w2.heap.size < w3.heap.size := (lt_of_block' y1); have ylc : ∀ o j, (w3.alloc o).cell? ⟨w2.heap.size, j, none⟩ = w3.cell? ⟨w2.heap.size, j, none⟩ := (fun o j => by rw [World.cell?_alloc_lt _ _ _ yll]); have ylf : ∀ o j, (w3.alloc o).frozen? ⟨w2.heap.size, j, none⟩ = w3.frozen? ⟨w2.heap.size, j, none⟩ := (fun o j => World.frozen?_of_block (Below.heap_alloc w3 o _ yll)))
        | (go_at_call 46; refine (HBy.out ((w2.alloc (.cells #[.int .i64 0] 3)).alloc (.cells #[.int .i64 0] 3)).drew ((HB2.out.alloc HB2.out.size _).alloc (by have := HB2.out.size; simp; omega) _).drew).mono ?_; rintro e w3 ⟨no, nc, rfl, hr3, hn3⟩; have b3 := hn3.below; have hb3 : Below w2.heap.size w2 w3 := ((((Below.refl w2.heap.size w2).alloc (Nat.le_refl _) _).alloc (by simp) _).drew.trans (b3.mono (by simp; try omega))); have hnw : ∀ k, blk (.slice no 32 nc) = some k → w2.heap.size + 1 + 1 ≤ k := (fun k hk => by have := hn3.new k hk; simp at this; omega); have hz3 : w2.heap.size ≤ w3.heap.size := hb3.size; have hzb := HZ.out; obtain ⟨s0, s1, s2, s3⟩ := HK.out w3 hb3; have d300 : ¬ w.heap.size = w3.heap.size := (by omega); have d300x : ¬ w3.heap.size = w.heap.size := (by omega); have d301 : ¬ w.heap.size = w3.heap.size + 1 := (by omega); have d301x : ¬ w3.heap.size + 1 = w.heap.size := (by omega); have d310 : ¬ fb = w3.heap.size := (by omega); have d310x : ¬ w3.heap.size = fb := (by omega); have d311 : ¬ fb = w3.heap.size + 1 := (by omega); have d311x : ¬ w3.heap.size + 1 = fb := (by omega); have d320 : ¬ v = w3.heap.size := (by omega); have d320x : ¬ w3.heap.size = v := (by omega); have d321 : ¬ v = w3.heap.size + 1 := (by omega); have d321x : ¬ w3.heap.size + 1 = v := (by omega); have p0a : ∀ o, (w3.alloc o).cell? ⟨w.heap.size, 0, none⟩ = some (.pointer (some ⟨v, 0, none⟩)) := (fun o => by rw [World.cell?_alloc_lt _ _ _ (by show w.heap.size < w3.heap.size; omega)]; exact s0); have p0b : ∀ o1 o2, ((w3.alloc o1).alloc o2).cell? ⟨w.heap.size, 0, none⟩ = some (.pointer (some ⟨v, 0, none⟩)) := (fun o1 o2 => by rw [World.cell?_alloc_lt _ _ _ (by simp; omega)]; exact p0a o1); have p1a : ∀ o, (w3.alloc o).cell? ⟨fb, 0, none⟩ = some (.int .i64 a) := (fun o => by rw [World.cell?_alloc_lt _ _ _ (by show fb < w3.heap.size; omega)]; exact s1); have p1b : ∀ o1 o2, ((w3.alloc o1).alloc o2).cell? ⟨fb, 0, none⟩ = some (.int .i64 a) := (fun o1 o2 => by rw [World.cell?_alloc_lt _ _ _ (by simp; omega)]; exact p1a o1); have p2a : ∀ o, (w3.alloc o).cell? ⟨fb, 1, none⟩ = some (.int .i64 b) := (fun o => by rw [World.cell?_alloc_lt _ _ _ (by show fb < w3.heap.size; omega)]; exact s2); have p2b : ∀ o1 o2, ((w3.alloc o1).alloc o2).cell? ⟨fb, 1, none⟩ = some (.int .i64 b) := (fun o1 o2 => by rw [World.cell?_alloc_lt _ _ _ (by simp; omega)]; exact p2a o1); have p3a : ∀ o, (w3.alloc o).cell? ⟨v, 0, none⟩ = some (.pointer (some ⟨g, 0, none⟩)) := (fun o => by rw [World.cell?_alloc_lt _ _ _ (by show v < w3.heap.size; omega)]; exact s3); have p3b : ∀ o1 o2, ((w3.alloc o1).alloc o2).cell? ⟨v, 0, none⟩ = some (.pointer (some ⟨g, 0, none⟩)) := (fun o1 o2 => by rw [World.cell?_alloc_lt _ _ _ (by simp; omega)]; exact p3a o1); have y1 := (b3.block w2.heap.size (by simp; try omega)).trans (heap_first w2 (.cells #[.int .i64 0] 3) (.cells #[.int .i64 0] 3)); have z1 := (b3.block (w2.heap.size + 1) (by simp; try omega)).trans (heap_second w2 (.cells #[.int .i64 0] 3) (.cells #[.int .i64 0] 3)); have y2 := one_cell y1; have y3 : w3.frozen? ⟨w2.heap.size, 0, none⟩ = false := (by simp [World.frozen?, y1]); have z2 := one_cell z1; have z3 : w3.frozen? ⟨w2.heap.size + 1, 0, none⟩ = false := (by simp [World.frozen?, z1])))
      all_goals go_wp2_with fail
      all_goals go_meet
      all_goals refine ⟨_, _, _, _, rfl, rfl, rfl, ?_⟩
      all_goals
        first
          | (with_reducible refine lj1 ?_ ?_)
          | (with_reducible refine lj2 ?_ ?_)
          | (with_reducible refine lj3 ?_ ?_ ?_ ?_)
          | (with_reducible refine lj4 ?_ ?_ ?_ ?_)
          | (with_reducible refine lj5 ?_ ?_ ?_ ?_ ?_)
          | (with_reducible refine lj6 ?_ ?_ ?_ ?_ ?_)
      all_goals first
        | exact hb3
        | exact hr3
        | exact hnw
        | exact y1
        | exact z1
  case rest =>
    rename World => wd
    obtain ⟨ab, bb, no, nc, rfl, rfl, rfl, lj⟩ := hcut
    have LJ0 := Kp.mk lj
    have HBc := Kp.mk (HB2.out.trans (lj.bel.mono HB2.out.size))
    have hxa := lj.xa
    have hxb := lj.xb
    have HZ2 : Kp (v < w.heap.size ∧ w.heap.size < w2.heap.size ∧ w2.heap.size ≤ ab ∧ w2.heap.size ≤ bb ∧ ab ≠ bb ∧ ab < wd.heap.size ∧ bb < wd.heap.size) := ⟨HZ.out.1, by have := HZ.out; omega, lj.ga, lj.gb, lj.ne, lt_of_block' hxa, lt_of_block' hxb⟩
    have HXc : Kp (wd.heap[w.heap.size]? = some (.cells #[.pointer (some ⟨v, 0, none⟩)] 30 (0, 0))) := ⟨(lj.bel.block _ (by have := HZ.out; omega)).trans HX2.out⟩
    have HSc := Kp.mk (HS.out.below HBc.out)
    have HK2 : Kp (∀ W, Below wd.heap.size wd W → W.cell? ⟨w.heap.size, 0, none⟩ = some (.pointer (some ⟨v, 0, none⟩)) ∧ W.cell? ⟨v, 1, none⟩ = some (.int .i64 q.gen) ∧ W.cell? ⟨ab, 0, none⟩ = some (.int .i64 a) ∧ W.cell? ⟨bb, 0, none⟩ = some (.int .i64 b)) := ⟨fun W hW => ⟨one_cell ((hW.block _ (lt_of_block' HXc.out)).trans HXc.out), (HSc.out.below hW).vlt.c1, one_cell ((hW.block _ (lt_of_block' hxa)).trans hxa), one_cell ((hW.block _ (lt_of_block' hxb)).trans hxb)⟩⟩
    have HCo := Kp.mk (fun W (hW : Below wd.heap.size wd W) => (Count_any g v D q m n W (HSc.out.below hW) HbB.out.1 (by have := HbB.out; omega)).mono fun e w' (hh : _ ∧ ∃ k, w' = W.drewN k) => And.intro hh.1 (show Below W.heap.size W w' from by obtain ⟨_, k, rfl⟩ := hh; exact ⟨rfl, rfl, rfl, Nat.le_refl _, fun _ _ => rfl⟩))
    obtain ⟨s0, s1, s2, s3⟩ := HK2.out wd (Below.refl _ _)
    have hgw : IntKind.i64.wrap (q.gen + 1) = q.gen + 1 := by rw [IntKind.wrap_i64]; have := HbB.out; omega
    clear lj hxa hxb
    go_upto_region 13 with fail
    go_cut [9] from 61 to 72 (fun t9 wx => ∃ hb lb : Nat, t9 = .pointer (some ⟨hb, 0, none⟩) ∧ HJ wd wx (q.gen + 1) (q.base + n) a b hb lb)
    case first =>
        have hzb := HZ2.out
        have df00 : ¬ w.heap.size = wd.heap.size := (by omega)
        have df00x : ¬ wd.heap.size = w.heap.size := (by omega)
        have df01 : ¬ w.heap.size = wd.heap.size + 1 := (by omega)
        have df01x : ¬ wd.heap.size + 1 = w.heap.size := (by omega)
        have df10 : ¬ v = wd.heap.size := (by omega)
        have df10x : ¬ wd.heap.size = v := (by omega)
        have df11 : ¬ v = wd.heap.size + 1 := (by omega)
        have df11x : ¬ wd.heap.size + 1 = v := (by omega)
        have df20 : ¬ ab = wd.heap.size := (by omega)
        have df20x : ¬ wd.heap.size = ab := (by omega)
        have df21 : ¬ ab = wd.heap.size + 1 := (by omega)
        have df21x : ¬ wd.heap.size + 1 = ab := (by omega)
        have df30 : ¬ bb = wd.heap.size := (by omega)
        have df30x : ¬ wd.heap.size = bb := (by omega)
        have df31 : ¬ bb = wd.heap.size + 1 := (by omega)
        have df31x : ¬ wd.heap.size + 1 = bb := (by omega)
        have ps0a : ∀ o, (wd.alloc o).cell? ⟨w.heap.size, 0, none⟩ = some (.pointer (some ⟨v, 0, none⟩)) := (fun o => by rw [World.cell?_alloc_lt _ _ _ (by show w.heap.size < wd.heap.size; omega)]; exact s0)
        have ps0b : ∀ o1 o2, ((wd.alloc o1).alloc o2).cell? ⟨w.heap.size, 0, none⟩ = some (.pointer (some ⟨v, 0, none⟩)) := (fun o1 o2 => by rw [World.cell?_alloc_lt _ _ _ (by simp; omega)]; exact ps0a o1)
        have ps1a : ∀ o, (wd.alloc o).cell? ⟨v, 1, none⟩ = some (.int .i64 q.gen) := (fun o => by rw [World.cell?_alloc_lt _ _ _ (by show v < wd.heap.size; omega)]; exact s1)
        have ps1b : ∀ o1 o2, ((wd.alloc o1).alloc o2).cell? ⟨v, 1, none⟩ = some (.int .i64 q.gen) := (fun o1 o2 => by rw [World.cell?_alloc_lt _ _ _ (by simp; omega)]; exact ps1a o1)
        have ps2a : ∀ o, (wd.alloc o).cell? ⟨ab, 0, none⟩ = some (.int .i64 a) := (fun o => by rw [World.cell?_alloc_lt _ _ _ (by show ab < wd.heap.size; omega)]; exact s2)
        have ps2b : ∀ o1 o2, ((wd.alloc o1).alloc o2).cell? ⟨ab, 0, none⟩ = some (.int .i64 a) := (fun o1 o2 => by rw [World.cell?_alloc_lt _ _ _ (by simp; omega)]; exact ps2a o1)
        have ps3a : ∀ o, (wd.alloc o).cell? ⟨bb, 0, none⟩ = some (.int .i64 b) := (fun o => by rw [World.cell?_alloc_lt _ _ _ (by show bb < wd.heap.size; omega)]; exact s3)
        have ps3b : ∀ o1 o2, ((wd.alloc o1).alloc o2).cell? ⟨bb, 0, none⟩ = some (.int .i64 b) := (fun o1 o2 => by rw [World.cell?_alloc_lt _ _ _ (by simp; omega)]; exact ps3a o1)
        go_region_held3 (fun w' => w'.cell? ⟨w.heap.size, 0, none⟩ = some (.pointer (some ⟨v, 0, none⟩)) ∧ w'.cell? ⟨v, 1, none⟩ = some (.int .i64 q.gen) ∧ w'.cell? ⟨ab, 0, none⟩ = some (.int .i64 a) ∧ w'.cell? ⟨bb, 0, none⟩ = some (.int .i64 b)) (go_keep) (first
          | (go_at_call 22; refine (HCo.out wd.drew ((Below.refl wd.heap.size wd).drew)).mono ?_; rintro e w3 ⟨rfl, b3⟩; have hb3 : Below wd.heap.size wd w3 := ((Below.refl wd.heap.size wd).drew.trans (b3.mono (by simp; try omega))); have hz3 : wd.heap.size ≤ w3.heap.size := hb3.size; have hzb := HZ2.out; obtain ⟨s0, s1, s2, s3⟩ := HK2.out w3 hb3; have de00 : ¬ w.heap.size = w3.heap.size := (by omega); have de00x : ¬ w3.heap.size = w.heap.size := (by omega); have de01 : ¬ w.heap.size = w3.heap.size + 1 := (by omega); have de01x : ¬ w3.heap.size + 1 = w.heap.size := (by omega); have de10 : ¬ v = w3.heap.size := (by omega); have de10x : ¬ w3.heap.size = v := (by omega); have de11 : ¬ v = w3.heap.size + 1 := (by omega); have de11x : ¬ w3.heap.size + 1 = v := (by omega); have de20 : ¬ ab = w3.heap.size := (by omega); have de20x : ¬ w3.heap.size = ab := (by omega); have de21 : ¬ ab = w3.heap.size + 1 := (by omega); have de21x : ¬ w3.heap.size + 1 = ab := (by omega); have de30 : ¬ bb = w3.heap.size := (by omega); have de30x : ¬ w3.heap.size = bb := (by omega); have de31 : ¬ bb = w3.heap.size + 1 := (by omega); have de31x : ¬ w3.heap.size + 1 = bb := (by omega); have ps0a : ∀ o, (w3.alloc o).cell? ⟨w.heap.size, 0, none⟩ = some (.pointer (some ⟨v, 0, none⟩)) := (fun o => by rw [World.cell?_alloc_lt _ _ _ (by show w.heap.size < w3.heap.size; omega)]; exact s0); have ps0b : ∀ o1 o2, ((w3.alloc o1).alloc o2).cell? ⟨w.heap.size, 0, none⟩ = some (.pointer (some ⟨v, 0, none⟩)) := (fun o1 o2 => by rw [World.cell?_alloc_lt _ _ _ (by simp; omega)]; exact ps0a o1); have ps1a : ∀ o, (w3.alloc o).cell? ⟨v, 1, none⟩ = some (.int .i64 q.gen) := (fun o => by rw [World.cell?_alloc_lt _ _ _ (by show v < w3.heap.size; omega)]; exact s1); have ps1b : ∀ o1 o2, ((w3.alloc o1).alloc o2).cell? ⟨v, 1, none⟩ = some (.int .i64 q.gen) := (fun o1 o2 => by rw [World.cell?_alloc_lt _ _ _ (by simp; omega)]; exact ps1a o1); have ps2a : ∀ o, (w3.alloc o).cell? ⟨ab, 0, none⟩ = some (.int .i64 a) := (fun o => by rw [World.cell?_alloc_lt _ _ _ (by show ab < w3.heap.size; omega)]; exact s2); have ps2b : ∀ o1 o2, ((w3.alloc o1).alloc o2).cell? ⟨ab, 0, none⟩ = some (.int .i64 a) := (fun o1 o2 => by rw [World.cell?_alloc_lt _ _ _ (by simp; omega)]; exact ps2a o1); have ps3a : ∀ o, (w3.alloc o).cell? ⟨bb, 0, none⟩ = some (.int .i64 b) := (fun o => by rw [World.cell?_alloc_lt _ _ _ (by show bb < w3.heap.size; omega)]; exact s3); have ps3b : ∀ o1 o2, ((w3.alloc o1).alloc o2).cell? ⟨bb, 0, none⟩ = some (.int .i64 b) := (fun o1 o2 => by rw [World.cell?_alloc_lt _ _ _ (by simp; omega)]; exact ps3a o1); have q1 : ∀ o1 o2 j, ((w3.alloc o1).alloc o2).cell? ⟨w3.heap.size, j, none⟩ = (w3.alloc o1).cell? ⟨w3.heap.size, j, none⟩ := (fun o1 o2 j => by rw [World.cell?_alloc_lt _ _ _ (by simp)]); have q2 : ∀ o1 o2 j, ((w3.alloc o1).alloc o2).frozen? ⟨w3.heap.size, j, none⟩ = (w3.alloc o1).frozen? ⟨w3.heap.size, j, none⟩ := (fun o1 o2 j => World.frozen?_of_block (Below.heap_alloc (w3.alloc o1) o2 _ (by simp))))
          | (go_at_call 22; refine (HCo.out (wd.alloc (.cells #[.int .i64 b] 3)).drew (((Below.refl wd.heap.size wd).alloc (Nat.le_refl _) _).drew)).mono ?_; rintro e w3 ⟨rfl, b3⟩; have hb3 : Below wd.heap.size wd w3 := (((Below.refl wd.heap.size wd).alloc (Nat.le_refl _) _).drew.trans (b3.mono (by simp; try omega))); have hz3 : wd.heap.size ≤ w3.heap.size := hb3.size; have hzb := HZ2.out; obtain ⟨s0, s1, s2, s3⟩ := HK2.out w3 hb3; have de00 : ¬ w.heap.size = w3.heap.size := (by omega); have de00x : ¬ w3.heap.size = w.heap.size := (by omega); have de01 : ¬ w.heap.size = w3.heap.size + 1 := (by omega); have de01x : ¬ w3.heap.size + 1 = w.heap.size := (by omega); have de10 : ¬ v = w3.heap.size := (by omega); have de10x : ¬ w3.heap.size = v := (by omega); have de11 : ¬ v = w3.heap.size + 1 := (by omega); have de11x : ¬ w3.heap.size + 1 = v := (by omega); have de20 : ¬ ab = w3.heap.size := (by omega); have de20x : ¬ w3.heap.size = ab := (by omega); have de21 : ¬ ab = w3.heap.size + 1 := (by omega); have de21x : ¬ w3.heap.size + 1 = ab := (by omega); have de30 : ¬ bb = w3.heap.size := (by omega); have de30x : ¬ w3.heap.size = bb := (by omega); have de31 : ¬ bb = w3.heap.size + 1 := (by omega); have de31x : ¬ w3.heap.size + 1 = bb := (by omega); have ps0a : ∀ o, (w3.alloc o).cell? ⟨w.heap.size, 0, none⟩ = some (.pointer (some ⟨v, 0, none⟩)) := (fun o => by rw [World.cell?_alloc_lt _ _ _ (by show w.heap.size < w3.heap.size; omega)]; exact s0); have ps0b : ∀ o1 o2, ((w3.alloc o1).alloc o2).cell? ⟨w.heap.size, 0, none⟩ = some (.pointer (some ⟨v, 0, none⟩)) := (fun o1 o2 => by rw [World.cell?_alloc_lt _ _ _ (by simp; omega)]; exact ps0a o1); have ps1a : ∀ o, (w3.alloc o).cell? ⟨v, 1, none⟩ = some (.int .i64 q.gen) := (fun o => by rw [World.cell?_alloc_lt _ _ _ (by show v < w3.heap.size; omega)]; exact s1); have ps1b : ∀ o1 o2, ((w3.alloc o1).alloc o2).cell? ⟨v, 1, none⟩ = some (.int .i64 q.gen) := (fun o1 o2 => by rw [World.cell?_alloc_lt _ _ _ (by simp; omega)]; exact ps1a o1); have ps2a : ∀ o, (w3.alloc o).cell? ⟨ab, 0, none⟩ = some (.int .i64 a) := (fun o => by rw [World.cell?_alloc_lt _ _ _ (by show ab < w3.heap.size; omega)]; exact s2); have ps2b : ∀ o1 o2, ((w3.alloc o1).alloc o2).cell? ⟨ab, 0, none⟩ = some (.int .i64 a) := (fun o1 o2 => by rw [World.cell?_alloc_lt _ _ _ (by simp; omega)]; exact ps2a o1); have ps3a : ∀ o, (w3.alloc o).cell? ⟨bb, 0, none⟩ = some (.int .i64 b) := (fun o => by rw [World.cell?_alloc_lt _ _ _ (by show bb < w3.heap.size; omega)]; exact s3); have ps3b : ∀ o1 o2, ((w3.alloc o1).alloc o2).cell? ⟨bb, 0, none⟩ = some (.int .i64 b) := (fun o1 o2 => by rw [World.cell?_alloc_lt _ _ _ (by simp; omega)]; exact ps3a o1); have y1 := (b3.block wd.heap.size (by simp; try omega)).trans (heap_alloc_new wd (.cells #[.int .i64 b] 3)); have y2 := one_cell y1; have yl : wd.heap.size < w3.heap.size := (lt_of_block' y1); have yc : ∀ o j, (w3.alloc o).cell? ⟨wd.heap.size, j, none⟩ = w3.cell? ⟨wd.heap.size, j, none⟩ := (fun o j => by rw [World.cell?_alloc_lt _ _ _ yl]); have yf : ∀ o j, (w3.alloc o).frozen? ⟨wd.heap.size, j, none⟩ = w3.frozen? ⟨wd.heap.size, j, none⟩ := (fun o j => World.frozen?_of_block (Below.heap_alloc w3 o _ yl)))
          | (go_at_call 22; refine (HCo.out (wd.alloc (.cells #[.int .i64 0, .int .i64 0, .int .i64 0, .slice none 0 0] 38)).drew (((Below.refl wd.heap.size wd).alloc (Nat.le_refl _) _).drew)).mono ?_; rintro e w3 ⟨rfl, b3⟩; have hb3 : Below wd.heap.size wd w3 := (((Below.refl wd.heap.size wd).alloc (Nat.le_refl _) _).drew.trans (b3.mono (by simp; try omega))); have hz3 : wd.heap.size ≤ w3.heap.size := hb3.size; have hzb := HZ2.out; obtain ⟨s0, s1, s2, s3⟩ := HK2.out w3 hb3; have de00 : ¬ w.heap.size = w3.heap.size := (by omega); have de00x : ¬ w3.heap.size = w.heap.size := (by omega); have de01 : ¬ w.heap.size = w3.heap.size + 1 := (by omega); have de01x : ¬ w3.heap.size + 1 = w.heap.size := (by omega); have de10 : ¬ v = w3.heap.size := (by omega); have de10x : ¬ w3.heap.size = v := (by omega); have de11 : ¬ v = w3.heap.size + 1 := (by omega); have de11x : ¬ w3.heap.size + 1 = v := (by omega); have de20 : ¬ ab = w3.heap.size := (by omega); have de20x : ¬ w3.heap.size = ab := (by omega); have de21 : ¬ ab = w3.heap.size + 1 := (by omega); have de21x : ¬ w3.heap.size + 1 = ab := (by omega); have de30 : ¬ bb = w3.heap.size := (by omega); have de30x : ¬ w3.heap.size = bb := (by omega); have de31 : ¬ bb = w3.heap.size + 1 := (by omega); have de31x : ¬ w3.heap.size + 1 = bb := (by omega); have ps0a : ∀ o, (w3.alloc o).cell? ⟨w.heap.size, 0, none⟩ = some (.pointer (some ⟨v, 0, none⟩)) := (fun o => by rw [World.cell?_alloc_lt _ _ _ (by show w.heap.size < w3.heap.size; omega)]; exact s0); have ps0b : ∀ o1 o2, ((w3.alloc o1).alloc o2).cell? ⟨w.heap.size, 0, none⟩ = some (.pointer (some ⟨v, 0, none⟩)) := (fun o1 o2 => by rw [World.cell?_alloc_lt _ _ _ (by simp; omega)]; exact ps0a o1); have ps1a : ∀ o, (w3.alloc o).cell? ⟨v, 1, none⟩ = some (.int .i64 q.gen) := (fun o => by rw [World.cell?_alloc_lt _ _ _ (by show v < w3.heap.size; omega)]; exact s1); have ps1b : ∀ o1 o2, ((w3.alloc o1).alloc o2).cell? ⟨v, 1, none⟩ = some (.int .i64 q.gen) := (fun o1 o2 => by rw [World.cell?_alloc_lt _ _ _ (by simp; omega)]; exact ps1a o1); have ps2a : ∀ o, (w3.alloc o).cell? ⟨ab, 0, none⟩ = some (.int .i64 a) := (fun o => by rw [World.cell?_alloc_lt _ _ _ (by show ab < w3.heap.size; omega)]; exact s2); have ps2b : ∀ o1 o2, ((w3.alloc o1).alloc o2).cell? ⟨ab, 0, none⟩ = some (.int .i64 a) := (fun o1 o2 => by rw [World.cell?_alloc_lt _ _ _ (by simp; omega)]; exact ps2a o1); have ps3a : ∀ o, (w3.alloc o).cell? ⟨bb, 0, none⟩ = some (.int .i64 b) := (fun o => by rw [World.cell?_alloc_lt _ _ _ (by show bb < w3.heap.size; omega)]; exact s3); have ps3b : ∀ o1 o2, ((w3.alloc o1).alloc o2).cell? ⟨bb, 0, none⟩ = some (.int .i64 b) := (fun o1 o2 => by rw [World.cell?_alloc_lt _ _ _ (by simp; omega)]; exact ps3a o1); have y1 := (b3.block wd.heap.size (by simp; try omega)).trans (heap_alloc_new wd (.cells #[.int .i64 0, .int .i64 0, .int .i64 0, .slice none 0 0] 38)); obtain ⟨y2, y3, y4, y5⟩ := cells4 y1; obtain ⟨y6, y7, y8, y9⟩ := free4 y1; have yl : wd.heap.size < w3.heap.size := (lt_of_block' y1); have yc : ∀ o j, (w3.alloc o).cell? ⟨wd.heap.size, j, none⟩ = w3.cell? ⟨wd.heap.size, j, none⟩ := (fun o j => by rw [World.cell?_alloc_lt _ _ _ yl]); have yf : ∀ o j, (w3.alloc o).frozen? ⟨wd.heap.size, j, none⟩ = w3.frozen? ⟨wd.heap.size, j, none⟩ := (fun o j => World.frozen?_of_block (Below.heap_alloc w3 o _ yl)))
          | (go_at_call 22; refine (HCo.out ((wd.alloc (.cells #[.int .i64 b] 3)).alloc (.cells #[.int .i64 0, .int .i64 0, .int .i64 0, .slice none 0 0] 38)).drew ((((Below.refl wd.heap.size wd).alloc (Nat.le_refl _) _).alloc (by simp) _).drew)).mono ?_; rintro e w3 ⟨rfl, b3⟩; have hb3 : Below wd.heap.size wd w3 := ((((Below.refl wd.heap.size wd).alloc (Nat.le_refl _) _).alloc (by simp) _).drew.trans (b3.mono (by simp; try omega))); have hz3 : wd.heap.size ≤ w3.heap.size := hb3.size; have hzb := HZ2.out; obtain ⟨s0, s1, s2, s3⟩ := HK2.out w3 hb3; have de00 : ¬ w.heap.size = w3.heap.size := (by omega); have de00x : ¬ w3.heap.size = w.heap.size := (by omega); have de01 : ¬ w.heap.size = w3.heap.size + 1 := (by omega); have de01x : ¬ w3.heap.size + 1 = w.heap.size := (by omega); have de10 : ¬ v = w3.heap.size := (by omega); have de10x : ¬ w3.heap.size = v := (by omega); have de11 : ¬ v = w3.heap.size + 1 := (by omega); have de11x : ¬ w3.heap.size + 1 = v := (by omega); have de20 : ¬ ab = w3.heap.size := (by omega); have de20x : ¬ w3.heap.size = ab := (by omega); have de21 : ¬ ab = w3.heap.size + 1 := (by omega); have de21x : ¬ w3.heap.size + 1 = ab := (by omega); have de30 : ¬ bb = w3.heap.size := (by omega); have de30x : ¬ w3.heap.size = bb := (by omega); have de31 : ¬ bb = w3.heap.size + 1 := (by omega); have de31x : ¬ w3.heap.size + 1 = bb := (by omega); have ps0a : ∀ o, (w3.alloc o).cell? ⟨w.heap.size, 0, none⟩ = some (.pointer (some ⟨v, 0, none⟩)) := (fun o => by rw [World.cell?_alloc_lt _ _ _ (by show w.heap.size < w3.heap.size; omega)]; exact s0); have ps0b : ∀ o1 o2, ((w3.alloc o1).alloc o2).cell? ⟨w.heap.size, 0, none⟩ = some (.pointer (some ⟨v, 0, none⟩)) := (fun o1 o2 => by rw [World.cell?_alloc_lt _ _ _ (by simp; omega)]; exact ps0a o1); have ps1a : ∀ o, (w3.alloc o).cell? ⟨v, 1, none⟩ = some (.int .i64 q.gen) := (fun o => by rw [World.cell?_alloc_lt _ _ _ (by show v < w3.heap.size; omega)]; exact s1); have ps1b : ∀ o1 o2, ((w3.alloc o1).alloc o2).cell? ⟨v, 1, none⟩ = some (.int .i64 q.gen) := (fun o1 o2 => by rw [World.cell?_alloc_lt _ _ _ (by simp; omega)]; exact ps1a o1); have ps2a : ∀ o, (w3.alloc o).cell? ⟨ab, 0, none⟩ = some (.int .i64 a) := (fun o => by rw [World.cell?_alloc_lt _ _ _ (by show ab < w3.heap.size; omega)]; exact s2); have ps2b : ∀ o1 o2, ((w3.alloc o1).alloc o2).cell? ⟨ab, 0, none⟩ = some (.int .i64 a) := (fun o1 o2 => by rw [World.cell?_alloc_lt _ _ _ (by simp; omega)]; exact ps2a o1); have ps3a : ∀ o, (w3.alloc o).cell? ⟨bb, 0, none⟩ = some (.int .i64 b) := (fun o => by rw [World.cell?_alloc_lt _ _ _ (by show bb < w3.heap.size; omega)]; exact s3); have ps3b : ∀ o1 o2, ((w3.alloc o1).alloc o2).cell? ⟨bb, 0, none⟩ = some (.int .i64 b) := (fun o1 o2 => by rw [World.cell?_alloc_lt _ _ _ (by simp; omega)]; exact ps3a o1); have y1 := (b3.block wd.heap.size (by simp; try omega)).trans (heap_first wd (.cells #[.int .i64 b] 3) (.cells #[.int .i64 0, .int .i64 0, .int .i64 0, .slice none 0 0] 38)); have z1 := (b3.block (wd.heap.size + 1) (by simp; try omega)).trans (heap_second wd (.cells #[.int .i64 b] 3) (.cells #[.int .i64 0, .int .i64 0, .int .i64 0, .slice none 0 0] 38)); have y2 := one_cell y1; obtain ⟨z2, z3, z4, z5⟩ := cells4 z1; obtain ⟨z6, z7, z8, z9⟩ := free4 z1; have dyz : ¬ wd.heap.size = wd.heap.size + 1 := (by omega); have dzy : ¬ wd.heap.size + 1 = wd.heap.size := (by omega))
          | (go_at_call 22; refine (HCo.out ((wd.alloc (.cells #[.int .i64 0, .int .i64 0, .int .i64 0, .slice none 0 0] 38)).alloc (.cells #[.int .i64 b] 3)).drew ((((Below.refl wd.heap.size wd).alloc (Nat.le_refl _) _).alloc (by simp) _).drew)).mono ?_; rintro e w3 ⟨rfl, b3⟩; have hb3 : Below wd.heap.size wd w3 := ((((Below.refl wd.heap.size wd).alloc (Nat.le_refl _) _).alloc (by simp) _).drew.trans (b3.mono (by simp; try omega))); have hz3 : wd.heap.size ≤ w3.heap.size := hb3.size; have hzb := HZ2.out; obtain ⟨s0, s1, s2, s3⟩ := HK2.out w3 hb3; have de00 : ¬ w.heap.size = w3.heap.size := (by omega); have de00x : ¬ w3.heap.size = w.heap.size := (by omega); have de01 : ¬ w.heap.size = w3.heap.size + 1 := (by omega); have de01x : ¬ w3.heap.size + 1 = w.heap.size := (by omega); have de10 : ¬ v = w3.heap.size := (by omega); have de10x : ¬ w3.heap.size = v := (by omega); have de11 : ¬ v = w3.heap.size + 1 := (by omega); have de11x : ¬ w3.heap.size + 1 = v := (by omega); have de20 : ¬ ab = w3.heap.size := (by omega); have de20x : ¬ w3.heap.size = ab := (by omega); have de21 : ¬ ab = w3.heap.size + 1 := (by omega); have de21x : ¬ w3.heap.size + 1 = ab := (by omega); have de30 : ¬ bb = w3.heap.size := (by omega); have de30x : ¬ w3.heap.size = bb := (by omega); have de31 : ¬ bb = w3.heap.size + 1 := (by omega); have de31x : ¬ w3.heap.size + 1 = bb := (by omega); have ps0a : ∀ o, (w3.alloc o).cell? ⟨w.heap.size, 0, none⟩ = some (.pointer (some ⟨v, 0, none⟩)) := (fun o => by rw [World.cell?_alloc_lt _ _ _ (by show w.heap.size < w3.heap.size; omega)]; exact s0); have ps0b : ∀ o1 o2, ((w3.alloc o1).alloc o2).cell? ⟨w.heap.size, 0, none⟩ = some (.pointer (some ⟨v, 0, none⟩)) := (fun o1 o2 => by rw [World.cell?_alloc_lt _ _ _ (by simp; omega)]; exact ps0a o1); have ps1a : ∀ o, (w3.alloc o).cell? ⟨v, 1, none⟩ = some (.int .i64 q.gen) := (fun o => by rw [World.cell?_alloc_lt _ _ _ (by show v < w3.heap.size; omega)]; exact s1); have ps1b : ∀ o1 o2, ((w3.alloc o1).alloc o2).cell? ⟨v, 1, none⟩ = some (.int .i64 q.gen) := (fun o1 o2 => by rw [World.cell?_alloc_lt _ _ _ (by simp; omega)]; exact ps1a o1); have ps2a : ∀ o, (w3.alloc o).cell? ⟨ab, 0, none⟩ = some (.int .i64 a) := (fun o => by rw [World.cell?_alloc_lt _ _ _ (by show ab < w3.heap.size; omega)]; exact s2); have ps2b : ∀ o1 o2, ((w3.alloc o1).alloc o2).cell? ⟨ab, 0, none⟩ = some (.int .i64 a) := (fun o1 o2 => by rw [World.cell?_alloc_lt _ _ _ (by simp; omega)]; exact ps2a o1); have ps3a : ∀ o, (w3.alloc o).cell? ⟨bb, 0, none⟩ = some (.int .i64 b) := (fun o => by rw [World.cell?_alloc_lt _ _ _ (by show bb < w3.heap.size; omega)]; exact s3); have ps3b : ∀ o1 o2, ((w3.alloc o1).alloc o2).cell? ⟨bb, 0, none⟩ = some (.int .i64 b) := (fun o1 o2 => by rw [World.cell?_alloc_lt _ _ _ (by simp; omega)]; exact ps3a o1); have y1 := (b3.block wd.heap.size (by simp; try omega)).trans (heap_first wd (.cells #[.int .i64 0, .int .i64 0, .int .i64 0, .slice none 0 0] 38) (.cells #[.int .i64 b] 3)); have z1 := (b3.block (wd.heap.size + 1) (by simp; try omega)).trans (heap_second wd (.cells #[.int .i64 0, .int .i64 0, .int .i64 0, .slice none 0 0] 38) (.cells #[.int .i64 b] 3)); obtain ⟨y2, y3, y4, y5⟩ := cells4 y1; obtain ⟨y6, y7, y8, y9⟩ := free4 y1; have z2 := one_cell z1; have dyz : ¬ wd.heap.size = wd.heap.size + 1 := (by omega); have dzy : ¬ wd.heap.size + 1 = wd.heap.size := (by omega)))
        all_goals go_wp2_with fail
        all_goals go_meet
        all_goals
          first
            | (with_reducible refine hj1 ?_)
            | (with_reducible refine hj2 ?_)
            | (with_reducible refine hj3 ?_ ?_)
            | (with_reducible refine hj4 ?_ ?_ ?_)
            | (with_reducible refine hj5 ?_ ?_)
            | (with_reducible refine hj6 ?_ ?_ ?_)
        all_goals first
          | exact hb3
          | exact y1
          | exact z1
    case rest =>
      rename World => we
      obtain ⟨hb, lb, rfl, hj⟩ := hcut
      have HJ0 := Kp.mk hj
      have HBe := Kp.mk (HBc.out.trans (hj.bel.mono HBc.out.size))
      have HMk := Kp.mk (fun W (hW : Below w.heap.size w W) => (Make_any 2 s W (by decide) hs (HS.out.below hW).tab.now).mono fun e w' (hh : _ ∧ _) => And.intro (hh.1.trans (show makeE 2 s = .returned (.tuple #[.string (snapB s), .int .i64 (0 : Nat)]) from by unfold makeE makeV; rw [if_neg (by decide), if_neg hbig]; rfl)) hh.2)
      have HFz : Kp ((snapB s).size = s.size + 9) := ⟨snapB_size s⟩
      generalize snapB s = F at *
      obtain ⟨nq, ncp, hnv, _, _, hnl, _⟩ := LJ0.out.row.at_ (by decide)
      simp only [Value.slice.injEq] at hnv
      obtain ⟨rfl, _, rfl⟩ := hnv
      clear hj s0 s1 s2 s3 hgw HCo
      go_wp2_with fail
      refine (HMk.out _ HBe.out).mono ?_
      rintro e w5 ⟨rfl, b5⟩
      have H5e : Kp (Below we.heap.size we (w5.alloc (.cells #[.string F] 9))) := ⟨b5.alloc b5.size _⟩
      have HXs : Kp ((w5.alloc (.cells #[.string F] 9)).heap[w5.heap.size]? = some (.cells #[.string F] 9 (0, 0))) := ⟨heap_alloc_new w5 _⟩
      have HZ3 : Kp (we.heap.size ≤ w5.heap.size) := ⟨b5.size⟩
      clear b5 HMk
      go_upto_region 15 with fail
      generalize hsb : w5.heap.size = sb at HXs HZ3 ⊢
      generalize w5.alloc (.cells #[.string F] 9) = w6 at *
      have HB6 := Kp.mk (HBe.out.trans (H5e.out.mono HBe.out.size))
      have HS6 := Kp.mk (HS.out.below HB6.out)
      have HX6 : Kp (w6.heap[w.heap.size]? = some (.cells #[.pointer (some ⟨v, 0, none⟩)] 30 (0, 0))) := ⟨(H5e.out.block _ (by have := HBe.out.size; have := HBc.out.size; have := HJ0.out.bel.size; have := HZ2.out; omega)).trans ((HJ0.out.bel.block _ (by have := HZ2.out; omega)).trans HXc.out)⟩
      have HA6 : Kp (w6.heap[ab]? = some (OT a) ∧ w6.heap[bb]? = some (OT b)) := ⟨(H5e.out.block _ (by have := HJ0.out.bel.size; have := HZ2.out; omega)).trans ((HJ0.out.bel.block _ (by have := HZ2.out; omega)).trans LJ0.out.xa), (H5e.out.block _ (by have := HJ0.out.bel.size; have := HZ2.out; omega)).trans ((HJ0.out.bel.block _ (by have := HZ2.out; omega)).trans LJ0.out.xb)⟩
      have HH6 : Kp (w6.heap[hb]? = some (OH ⟨q.gen + 1, q.base + n, a, some ⟨lb, 0, none⟩, 1, 1, fun _ => b⟩) ∧ w6.heap[lb]? = some (OT b)) := ⟨(H5e.out.block _ (lt_of_block' HJ0.out.xh)).trans HJ0.out.xh, (H5e.out.block _ (lt_of_block' HJ0.out.xl)).trans HJ0.out.xl⟩
      have HR6 : Kp (RK 1 w6 (.slice (some ⟨nq, 0, none⟩) 32 nc) 32 (numL (sizeF D) 32)) := ⟨(LJ0.out.row.below HJ0.out.bel).below H5e.out⟩
      have HKs : Kp (∀ W, Below w6.heap.size w6 W → W.cell? ⟨w.heap.size, 0, none⟩ = some (.pointer (some ⟨v, 0, none⟩)) ∧ W.cell? ⟨v, 0, none⟩ = some (.pointer (some ⟨g, 0, none⟩)) ∧ W.cell? ⟨ab, 0, none⟩ = some (.int .i64 a) ∧ W.cell? ⟨bb, 0, none⟩ = some (.int .i64 b) ∧ W.cell? ⟨sb, 0, none⟩ = some (.string F) ∧ W.cell? ⟨nq, a, none⟩ = some (.int .i64 (sizeF D a)) ∧ W.cell? ⟨nq, b, none⟩ = some (.int .i64 (sizeF D b)) ∧ W.cell? ⟨hb, 0, none⟩ = some (.int .i64 (q.gen + 1)) ∧ W.cell? ⟨hb, 1, none⟩ = some (.int .i64 (q.base + n)) ∧ W.cell? ⟨hb, 2, none⟩ = some (.int .i64 a) ∧ W.cell? ⟨hb, 3, none⟩ = some (.slice (some ⟨lb, 0, none⟩) 1 1)) := ⟨fun W hW => by
        have hh := (hW.block _ (lt_of_block' HH6.out.1)).trans HH6.out.1
        obtain ⟨y0, y1, y2, y3⟩ := cells4 hh
        exact ⟨one_cell ((hW.block _ (lt_of_block' HX6.out)).trans HX6.out), (HS6.out.below hW).vlt.c0, one_cell ((hW.block _ (lt_of_block' HA6.out.1)).trans HA6.out.1), one_cell ((hW.block _ (lt_of_block' HA6.out.2)).trans HA6.out.2), one_cell ((hW.block _ (lt_of_block' HXs.out)).trans HXs.out), (HR6.out.below hW).cell a _ (numL_get _ _ _ ha32), (HR6.out.below hW).cell b _ (numL_get _ _ _ hb32), y0, y1, y2, y3⟩⟩
      have HUs := Kp.mk (fun W (hW : Below w6.heap.size w6 W) => (Used_any g D W (HS6.out.below hW).disk HS.out.ok.most).mono fun e w' (hh : _ ∧ _) => And.intro hh.1 (hW.trans (hh.2.mono hW.size)))
      have HOt := Kp.mk (fun W (hW : Below w6.heap.size w6 W) => (other_any g v D q m n W (HS6.out.below hW) hd (some ⟨nq, 0, none⟩) nc (sizeF D) (HR6.out.below hW)).mono fun e w' (hh : _ ∧ _) => And.intro hh.1 (hW.trans (hh.2.mono hW.size)))
      have HP6 : Kp (HdAt w6 ⟨q.gen + 1, q.base + n, a, some ⟨lb, 0, none⟩, 1, 1, fun _ => b⟩) := ⟨(HdOwn.mk (B := 0) (rk_block HH6.out.2) (fun _ _ => Nat.zero_le _) (by show (1 : Nat) ≤ 31; decide)).at'⟩
      have HSz := Kp.mk (fun W (hW : Below w6.heap.size w6 W) => (HSize_any ⟨q.gen + 1, q.base + n, a, some ⟨lb, 0, none⟩, 1, 1, fun _ => b⟩ W (HP6.out.below hW)).mono fun e w' (hh : _ ∧ _) => And.intro hh.1 (hW.trans (hh.2.mono hW.size)))
      have HCa := Kp.mk (fun W (hW : Below w6.heap.size w6 W) => (Capacity_any g D W (HS6.out.below hW).disk).mono fun e w' (hh : _ ∧ W = w') => And.intro hh.1 (show Below w6.heap.size w6 w' from hh.2 ▸ hW))
      have HPv : Kp ((HdV.hv ⟨q.gen + 1, q.base + n, a, some ⟨lb, 0, none⟩, 1, 1, fun _ => b⟩) = layH q.hv n) := ⟨by unfold layH; rw [HA.out, HBb.out]; rfl⟩
      have HLH := HPv.out
      unfold HdV.v at HSz
      simp only [] at HSz
      rw [HPv.out] at HSz
      have hU : layU D q.hv F = (used D.tp 32 : Int) - sizeF D a + (F.size : Int) := by unfold layU; rw [HA.out, Int.toNat_natCast]
      rw [hU, HBb.out, Int.toNat_natCast] at hV
      have b1 := used_le HS.out.ok.most 32 (Nat.le_refl _)
      have b2 : 0 ≤ sizeF D a ∧ sizeF D a ≤ 1048576 := ⟨by unfold sizeF; omega, by unfold sizeF; have := HS.out.ok.most a ha32; omega⟩
      have b3 : 0 ≤ sizeF D b ∧ sizeF D b ≤ 1048576 := ⟨by unfold sizeF; omega, by unfold sizeF; have := HS.out.ok.most b hb32; omega⟩
      have b4 : 0 ≤ sizeF D (Hd.otherV D) ∧ sizeF D (Hd.otherV D) ≤ 1048576 := ⟨by unfold sizeF; omega, by unfold sizeF; have := HS.out.ok.most (Hd.otherV D) (by have := Hd.other_le D; omega); omega⟩
      have b5 : HSize (layH q.hv n) ≤ 400 := by
        unfold HSize
        split
        · rename_i hmm; have := enc_len hmm; omega
        · omega
      have b6 : F.size ≤ 262153 := by have := HFz.out; omega
      have BX := Kp.mk (Below.refl w6.heap.size w6)
      obtain ⟨k0, k1, k2, k3, k4, k5, k6, k7, k8, k9, k10⟩ := HKs.out w6 (Below.refl _ _)
      have hcap := HS.out.ok.cap
      have hcap2 := HS.out.ok.cap2
      clear hU
      generalize hcp : D.cap = cap at *
      generalize used D.tp 32 = U at *
      generalize sizeF D a = sa at *
      generalize sizeF D b = sb2 at *
      generalize sizeF D (Hd.otherV D) = so at *
      generalize HSize (layH q.hv n) = sh at *
      have j1 : (0 : Int) ≤ (a : Int) := by omega
      have j2 : (a : Int) < 32 := by omega
      have j3 : (0 : Int) ≤ (b : Int) := by omega
      have j4 : (b : Int) < 32 := by omega
      have v1 : IntKind.i64.wrap ((U : Int) - sa) = (U : Int) - sa := by rw [IntKind.wrap_i64]; omega
      have v2 : IntKind.i64.wrap ((U : Int) - sa + (F.size : Int)) = (U : Int) - sa + (F.size : Int) := by rw [IntKind.wrap_i64]; omega
      have v3 : IntKind.i64.wrap ((U : Int) - sa + (F.size : Int) - sb2) = (U : Int) - sa + (F.size : Int) - sb2 := by rw [IntKind.wrap_i64]; omega
      have v4 : IntKind.i64.wrap ((U : Int) - sa + (F.size : Int) - sb2 - so) = (U : Int) - sa + (F.size : Int) - sb2 - so := by rw [IntKind.wrap_i64]; omega
      have v5 : IntKind.i64.wrap ((U : Int) - sa + (F.size : Int) - sb2 - so + (sh : Int)) = (U : Int) - sa + (F.size : Int) - sb2 - so + (sh : Int) := by rw [IntKind.wrap_i64]; omega
      go_region_held3 (fun w' => w'.cell? ⟨w.heap.size, 0, none⟩ = some (.pointer (some ⟨v, 0, none⟩)) ∧ w'.cell? ⟨v, 0, none⟩ = some (.pointer (some ⟨g, 0, none⟩)) ∧ w'.cell? ⟨ab, 0, none⟩ = some (.int .i64 a) ∧ w'.cell? ⟨sb, 0, none⟩ = some (.string F) ∧ w'.cell? ⟨nq, a, none⟩ = some (.int .i64 sa)) (go_keep)
        (first
          | (go_at_call 35; refine (HUs.out _ (by first | exact BX.out | exact BX.out.drew)).mono ?_; rintro e wu ⟨rfl, hbu⟩; have BX := Kp.mk hbu; obtain ⟨k0, k1, k2, k3, k4, k5, k6, k7, k8, k9, k10⟩ := HKs.out _ hbu; clear hbu))
      by_cases hr1 : cap < (U : Int) - sa + (F.size : Int)
      · have t8 : decide (cap < (U : Int) - sa + (F.size : Int)) = true := by rw [decide_eq_true_eq]; exact hr1
        rw [if_pos (.inl hr1)] at hV
        have HCk : Kp (∀ k, Calls Tryz.prog 36 #[.pointer (some ⟨g, 0, none⟩)] (wu.drewN k) fun e w' => e = .returned (.int .i64 cap) ∧ w' = wu.drewN k) := ⟨fun k => (Capacity_any g D _ ((HS6.out.below BX.out).drewN k).disk).mono fun e w' (hh : _ ∧ _) => ⟨by rw [← hcp]; exact hh.1, hh.2.symm⟩⟩
        have HC0 : Kp (Calls Tryz.prog 36 #[.pointer (some ⟨g, 0, none⟩)] wu fun e w' => e = .returned (.int .i64 cap) ∧ w' = wu) := ⟨(Capacity_any g D _ (HS6.out.below BX.out).disk).mono fun e w' (hh : _ ∧ _) => ⟨by rw [← hcp]; exact hh.1, hh.2.symm⟩⟩
        have HBk : Kp (∀ k, Below w6.heap.size w6 (wu.drewN k)) := ⟨fun k => ⟨BX.out.os, BX.out.tape, BX.out.output, BX.out.size, BX.out.block⟩⟩
        clear v3 v4 v5 hcp
        go_wp2_with fail
        go_quiet ((go_at_call 36; exact Calls.quiet_of_same (by first | exact HC0.out | exact HCk.out _)))
        go_wp2
        go_ret
        exact ⟨by rw [hV.out] <;> rfl, ⟨q, by rw [hV.out], by rw [hV.out]; exact HS6.out.below (HBk.out _), fun k hk => .inl hk⟩, Ch2.of_below (HB6.out.trans ((HBk.out _).mono HB6.out.size)) g v⟩
      · have t8 : decide (cap < (U : Int) - sa + (F.size : Int)) = false := by rw [decide_eq_false_iff_not]; exact hr1
        have hV2 : Kp (layV D q.hv n s = if cap < (U : Int) - sa + (F.size : Int) - sb2 - so + sh then (44, D, q.hv, n) else layG D q.hv n F) := ⟨by rw [hV.out]; by_cases hx : cap < (U : Int) - sa + (F.size : Int) - sb2 - so + sh; rw [if_pos (.inr hx), if_pos hx]; rw [if_neg (fun h => h.elim hr1 hx), if_neg hx]⟩
        clear hV v1 v2
        go_wp2_with fail
        go_region_held3 (fun w' => w'.cell? ⟨w.heap.size, 0, none⟩ = some (.pointer (some ⟨v, 0, none⟩)) ∧ w'.cell? ⟨v, 0, none⟩ = some (.pointer (some ⟨g, 0, none⟩)) ∧ w'.cell? ⟨bb, 0, none⟩ = some (.int .i64 b) ∧ w'.cell? ⟨nq, b, none⟩ = some (.int .i64 sb2) ∧ w'.cell? ⟨hb, 0, none⟩ = some (.int .i64 (q.gen + 1)) ∧ w'.cell? ⟨hb, 1, none⟩ = some (.int .i64 (q.base + n)) ∧ w'.cell? ⟨hb, 2, none⟩ = some (.int .i64 a) ∧ w'.cell? ⟨hb, 3, none⟩ = some (.slice (some ⟨lb, 0, none⟩) 1 1)) (go_keep)
          (first
            | (go_at_call 36; refine (HCa.out _ (by first | exact BX.out | exact BX.out.drew)).mono ?_; rintro e wu ⟨rfl, hbu⟩; have BX := Kp.mk hbu; obtain ⟨k0, k1, k2, k3, k4, k5, k6, k7, k8, k9, k10⟩ := HKs.out _ hbu; clear hbu)
            | (go_at_call 70; refine (HOt.out _ (by first | exact BX.out | exact BX.out.drew)).mono ?_; rintro e wu ⟨rfl, hbu⟩; have BX := Kp.mk hbu; obtain ⟨k0, k1, k2, k3, k4, k5, k6, k7, k8, k9, k10⟩ := HKs.out _ hbu; clear hbu)
            | (go_at_call 71; refine (HSz.out _ (by first | exact BX.out | exact BX.out.drew)).mono ?_; rintro e wu ⟨rfl, hbu⟩; have BX := Kp.mk hbu; obtain ⟨k0, k1, k2, k3, k4, k5, k6, k7, k8, k9, k10⟩ := HKs.out _ hbu; clear hbu))
        by_cases hr2 : cap < (U : Int) - sa + (F.size : Int) - sb2 - so + sh
        · have t9 : decide (cap < (U : Int) - sa + (F.size : Int) - sb2 - so + (sh : Int)) = true := by rw [decide_eq_true_eq]; exact hr2
          rw [if_pos hr2] at hV2
          go_wp2
          go_ret
          exact ⟨by rw [hV2.out] <;> rfl, ⟨q, by rw [hV2.out], by rw [hV2.out]; exact HS6.out.below BX.out, fun k hk => .inl hk⟩, Ch2.of_below (HB6.out.trans (BX.out.mono HB6.out.size)) g v⟩
        · have t9 : decide (cap < (U : Int) - sa + (F.size : Int) - sb2 - so + (sh : Int)) = false := by rw [decide_eq_false_iff_not]; exact hr2
          rw [if_neg hr2] at hV2
          have m1 := (HS6.out.below BX.out).vlt.c1
          have m2 := (HS6.out.below BX.out).vlt.c2
          have m3 := (HS6.out.below BX.out).vlt.c3
          have m4 := (HS6.out.below BX.out).vlt.c4
          have HPc := Kp.mk (fun W => vput_any v ⟨q.gen + 1, q.base + n, a, some ⟨lb, 0, none⟩, 1, 1, fun _ => b⟩ W)
          unfold HdV.v at HPc
          simp only [] at HPc
          clear k5 k6
          go_upto_region 19 with fail
          clear v3 v4 v5 t8 t9 hr1 hr2
          have B7 : Below w6.heap.size w6 (wu.alloc (.cells #[.int .i64 q.gen, .int .i64 q.base, .int .i64 q.snap, .slice q.lo q.ll q.lc] 38)) := BX.out.alloc BX.out.size _
          have XO : (wu.alloc (.cells #[.int .i64 q.gen, .int .i64 q.base, .int .i64 q.snap, .slice q.lo q.ll q.lc] 38)).heap[wu.heap.size]? = some (.cells #[.int .i64 q.gen, .int .i64 q.base, .int .i64 q.snap, .slice q.lo q.ll q.lc] 38 (0, 0)) := heap_alloc_new wu _
          have HB7 := Kp.mk B7
          have HXO := Kp.mk XO
          obtain ⟨ob, hob⟩ : ∃ ob, wu.heap.size = ob := ⟨_, rfl⟩
          rw [hob] at HXO ⊢
          have HOb : Kp (w6.heap.size ≤ ob) := ⟨by rw [← hob]; exact BX.out.size⟩
          clear k0 k1 k2 k3 k4 k7 k8 k9 k10 m1 m2 m3 m4 XO B7
          generalize wu.alloc (.cells #[.int .i64 q.gen, .int .i64 q.base, .int .i64 q.snap, .slice q.lo q.ll q.lc] 38) = w7 at *
          clear hob
          have BY := Kp.mk (Below.refl w7.heap.size w7)
          have hmf : ∀ (fn : Fn) (first cap : Array Value) (w : World), (Instr.makeFunc fn first cap).run Tryz.prog w = .ok (.func fn first cap) w := fun _ _ _ _ => rfl
          obtain ⟨k0, k1, k2, k3, k4, k5, k6, k7, k8, k9, k10⟩ := HKs.out w7 HB7.out
          have HKt : Kp (∀ W, Below w7.heap.size w7 W → W.cell? ⟨w.heap.size, 0, none⟩ = some (.pointer (some ⟨v, 0, none⟩)) ∧ W.cell? ⟨v, 0, none⟩ = some (.pointer (some ⟨g, 0, none⟩)) ∧ W.cell? ⟨ab, 0, none⟩ = some (.int .i64 a) ∧ W.cell? ⟨bb, 0, none⟩ = some (.int .i64 b) ∧ W.cell? ⟨sb, 0, none⟩ = some (.string F) ∧ W.cell? ⟨nq, a, none⟩ = some (.int .i64 sa) ∧ W.cell? ⟨nq, b, none⟩ = some (.int .i64 sb2) ∧ W.cell? ⟨hb, 0, none⟩ = some (.int .i64 (q.gen + 1)) ∧ W.cell? ⟨hb, 1, none⟩ = some (.int .i64 (q.base + n)) ∧ W.cell? ⟨hb, 2, none⟩ = some (.int .i64 a) ∧ W.cell? ⟨hb, 3, none⟩ = some (.slice (some ⟨lb, 0, none⟩) 1 1)) := ⟨fun W hW => HKs.out W (HB7.out.trans (hW.mono HB7.out.size))⟩
          clear k1 k2 k3 k4 k5 k6
          go_cut [14] from 123 to 133 (fun t14 wx => ∃ cb pb hb2 : Nat, t14 = .slice (some ⟨cb, 0, none⟩) 7 7 ∧ SJ w7 wx v w.heap.size ab bb sb (q.gen + 1) (q.base + n) a b lb cb pb hb2)
          case first =>
              refine wp_region_held_drew (S := (fun w' => w'.cell? ⟨w.heap.size, 0, none⟩ = some (.pointer (some ⟨v, 0, none⟩)) ∧ w'.cell? ⟨hb, 0, none⟩ = some (.int .i64 (q.gen + 1)) ∧ w'.cell? ⟨hb, 1, none⟩ = some (.int .i64 (q.base + n)) ∧ w'.cell? ⟨hb, 2, none⟩ = some (.int .i64 a) ∧ w'.cell? ⟨hb, 3, none⟩ = some (.slice (some ⟨lb, 0, none⟩) 1 1))) (by kernel_rfl) ?_ (fun hHeld => ?_)
              · exact ⟨k0, k7, k8, k9, k10⟩
              refine wpAnyH_take (i := 0) (oi := ?_) (v := ?_) ?_ (by kernel_rfl) (by kernel_rfl) (by kernel_rfl) ?_ (Or.inl ⟨?_, ?_⟩) (by assumption) ?_
              rotate_left 2
              · (simp only [List.getElem?_toArray, List.getElem?_cons_zero]; rfl)
              · exact fun _ _ _ h => h
              · rfl
              · (intro w hSw; (try dsimp only at hSw); first | (go_simp; done) | (go_simp; with_reducible rfl) | rfl)
              try simp only [Act.put, List.setIfInBounds_toArray, List.set_cons_zero, List.set_cons_succ]
              refine wpAnyH_take (i := 1) (oi := ?_) (v := ?_) ?_ (by kernel_rfl) (by kernel_rfl) (by kernel_rfl) ?_ (Or.inl ⟨?_, ?_⟩) (by assumption) ?_
              rotate_left 2
              · (simp only [List.getElem?_toArray, List.getElem?_cons_succ, List.getElem?_cons_zero]; rfl)
              · exact fun _ _ _ h => h
              · rfl
              · (intro w hSw; (try dsimp only at hSw); first | (go_simp; done) | (go_simp; with_reducible rfl) | rfl)
              try simp only [Act.put, List.setIfInBounds_toArray, List.set_cons_zero, List.set_cons_succ]
              refine wpAnyH_take (i := 2) (oi := ?_) (v := ?_) ?_ (by kernel_rfl) (by kernel_rfl) (by kernel_rfl) ?_ (Or.inl ⟨?_, ?_⟩) (by assumption) ?_
              rotate_left 2
              · (simp only [List.getElem?_toArray, List.getElem?_cons_succ, List.getElem?_cons_zero]; rfl)
              · exact fun _ _ _ h => h
              · rfl
              · (intro w hSw; (try dsimp only at hSw); first | (go_simp; done) | (go_simp; with_reducible rfl) | rfl)
              try simp only [Act.put, List.setIfInBounds_toArray, List.set_cons_zero, List.set_cons_succ]
              refine wpAnyH_take (i := 3) (oi := ?_) (v := ?_) ?_ (by kernel_rfl) (by kernel_rfl) (by kernel_rfl) ?_ (Or.inl ⟨?_, ?_⟩) (by assumption) ?_
              rotate_left 2
              · (simp only [List.getElem?_toArray, List.getElem?_cons_succ, List.getElem?_cons_zero]; rfl)
              · exact fun _ _ _ h => h
              · rfl
              · (intro w hSw; (try dsimp only at hSw); first | (go_simp; done) | (go_simp; with_reducible rfl) | rfl)
              try simp only [Act.put, List.setIfInBounds_toArray, List.set_cons_zero, List.set_cons_succ]
              refine wpAnyH_take (i := 4) (oi := ?_) (v := ?_) ?_ (by kernel_rfl) (by kernel_rfl) (by kernel_rfl) ?_ (Or.inl ⟨?_, ?_⟩) (by assumption) ?_
              rotate_left 2
              · (simp only [List.getElem?_toArray, List.getElem?_cons_succ, List.getElem?_cons_zero]; rfl)
              · exact fun _ _ _ h => h
              · rfl
              · (intro w hSw; (try dsimp only at hSw); first | (go_simp; done) | (go_simp; with_reducible rfl) | rfl)
              try simp only [Act.put, List.setIfInBounds_toArray, List.set_cons_zero, List.set_cons_succ]
              refine wpAnyH_take (i := 5) (oi := ?_) (v := ?_) ?_ (by kernel_rfl) (by kernel_rfl) (by kernel_rfl) ?_ (Or.inl ⟨?_, ?_⟩) (by assumption) ?_
              rotate_left 2
              · (simp only [List.getElem?_toArray, List.getElem?_cons_succ, List.getElem?_cons_zero]; rfl)
              · exact fun _ _ _ h => h
              · rfl
              · (intro w hSw; (try dsimp only at hSw); first | (go_simp; done) | (go_simp; with_reducible rfl) | rfl)
              try simp only [Act.put, List.setIfInBounds_toArray, List.set_cons_zero, List.set_cons_succ]
              refine wpAnyH_take (i := 6) (oi := ?_) (v := ?_) ?_ (by kernel_rfl) (by kernel_rfl) (by kernel_rfl) ?_ (Or.inl ⟨?_, ?_⟩) (by assumption) ?_
              rotate_left 2
              · (simp only [List.getElem?_toArray, List.getElem?_cons_succ, List.getElem?_cons_zero]; rfl)
              · exact fun _ _ _ h => h
              · rfl
              · (intro w hSw; (try dsimp only at hSw); first | (go_simp; done) | (go_simp; with_reducible rfl) | rfl)
              try simp only [Act.put, List.setIfInBounds_toArray, List.set_cons_zero, List.set_cons_succ]
              refine wpAnyH_take (i := 7) (oi := ?_) (v := ?_) ?_ (by kernel_rfl) (by kernel_rfl) (by kernel_rfl) ?_ (Or.inl ⟨?_, ?_⟩) (by assumption) ?_
              rotate_left 2
              · (simp only [List.getElem?_toArray, List.getElem?_cons_succ, List.getElem?_cons_zero]; rfl)
              · exact fun _ _ _ h => h
              · rfl
              · (intro w hSw; (try dsimp only at hSw); first | (go_simp; done) | (go_simp; with_reducible rfl) | rfl)
              try simp only [Act.put, List.setIfInBounds_toArray, List.set_cons_zero, List.set_cons_succ]
              refine wpAnyH_take (i := 9) (oi := ?_) (v := ?_) ?_ (by kernel_rfl) (by kernel_rfl) (by kernel_rfl) ?_ (Or.inl ⟨?_, ?_⟩) (by assumption) ?_
              rotate_left 2
              · (simp only [List.getElem?_toArray, List.getElem?_cons_succ, List.getElem?_cons_zero]; rfl)
              · exact fun _ _ _ h => h
              · rfl
              · (intro w hSw; (try dsimp only at hSw); first | (go_simp; done) | (go_simp; with_reducible rfl) | rfl)
              try simp only [Act.put, List.setIfInBounds_toArray, List.set_cons_zero, List.set_cons_succ]
              refine wpAnyH_ready (rs := [8]) (by kernel_rfl) (by simp) ?_
              refine AllReadyH.cons (o := ?_) ?_ (fun K hK => ?_) AllReadyH.nil
              rotate_left 1
              · (simp only [List.getElem?_toArray, List.getElem?_cons_succ, List.getElem?_cons_zero]; rfl)
              go_simp
              go_at_call 77
              refine (HPc.out _).mono ?_
              rintro e wq ⟨rfl, hwq⟩
              have HWQ := Kp.mk hwq
              have BQ : Kp (Below w7.heap.size w7 wq) := ⟨by rw [hwq]; exact ((BY.out.drew.alloc BY.out.size _).alloc (by simp) _)⟩
              obtain ⟨k0, k1, k2, k3, k4, k5, k6, k7, k8, k9, k10⟩ := HKt.out _ BQ.out
              have SB : Kp (∀ o, (wq.alloc o).cell? ⟨w.heap.size, 0, none⟩ = some (.pointer (some ⟨v, 0, none⟩)) ∧ (wq.alloc o).cell? ⟨hb, 0, none⟩ = some (.int .i64 (q.gen + 1)) ∧ (wq.alloc o).cell? ⟨hb, 1, none⟩ = some (.int .i64 (q.base + n)) ∧ (wq.alloc o).cell? ⟨hb, 2, none⟩ = some (.int .i64 a) ∧ (wq.alloc o).cell? ⟨hb, 3, none⟩ = some (.slice (some ⟨lb, 0, none⟩) 1 1)) := ⟨fun o => by obtain ⟨k0, k1, k2, k3, k4, k5, k6, k7, k8, k9, k10⟩ := HKt.out _ (BQ.out.alloc BQ.out.size o); exact ⟨k0, k7, k8, k9, k10⟩⟩
              clear k1 k2 k3 k4 k5 k6 hwq
              go_wp2_with fail
              refine hK.out _ _ ?_ (fun hHeld => ?_)
              · exact ⟨k0, k7, k8, k9, k10⟩
              clear hK K
              try simp only [Act.put, List.setIfInBounds_toArray, List.set_cons_zero, List.set_cons_succ]
              refine wpAnyH_ready (rs := [10]) (by kernel_rfl) (by simp) ?_
              refine AllReadyH.cons (o := ?_) ?_ (fun K hK => ?_) AllReadyH.nil
              rotate_left 1
              · (simp only [List.getElem?_toArray, List.getElem?_cons_succ, List.getElem?_cons_zero]; rfl)
              go_simp
              refine hK.out _ _ ?_ (fun hHeld => ?_)
              · exact SB.out _
              clear hK K
              try simp only [Act.put, List.setIfInBounds_toArray, List.set_cons_zero, List.set_cons_succ]
              refine wpAnyH_take (i := 11) (oi := ?_) (v := ?_) ?_ (by kernel_rfl) (by kernel_rfl) (by kernel_rfl) ?_ (Or.inl ⟨?_, ?_⟩) (by assumption) ?_
              rotate_left 2
              · (simp only [List.getElem?_toArray, List.getElem?_cons_succ, List.getElem?_cons_zero]; rfl)
              · exact fun _ _ _ h => h
              · rfl
              · (intro w hSw; (try dsimp only at hSw); first | (go_simp; done) | (go_simp; with_reducible rfl) | rfl)
              try simp only [Act.put, List.setIfInBounds_toArray, List.set_cons_zero, List.set_cons_succ]
              refine wpAnyH_done (by kernel_rfl) ?_ _
              go_wp2_with fail
              go_meet
              exact ⟨_, w7.heap.size, w7.heap.size + 1, rfl, sj1 HWQ.out⟩
          case rest =>
              obtain ⟨cb, pb, hb2, rfl, sj⟩ := hcut
              have HSj := Kp.mk sj
              have HZ4 : Kp (v < w.heap.size ∧ g < w.heap.size ∧ w.heap.size ≤ w6.heap.size ∧ w6.heap.size ≤ w7.heap.size) := ⟨HS.out.vlt.lt, HS.out.disk.lt, HB6.out.size, HB7.out.size⟩
              have HRow : Kp (RK 1 wc (.slice (some ⟨cb, 0, none⟩) 7 7) 7 [lfn v w.heap.size ab bb sb pb hb2 (fun _ => 0) 0, lfn v w.heap.size ab bb sb pb hb2 (fun _ => 0) 1, lfn v w.heap.size ab bb sb pb hb2 (fun _ => 0) 2, lfn v w.heap.size ab bb sb pb hb2 (fun _ => 0) 3, lfn v w.heap.size ab bb sb pb hb2 (fun _ => 0) 4, lfn v w.heap.size ab bb sb pb hb2 (fun _ => 0) 5, lfn v w.heap.size ab bb sb pb hb2 (fun _ => 0) 6]) := ⟨RK.block sj.xc rfl (by decide)⟩
              have HLt : Kp (cb < wc.heap.size ∧ w7.heap.size ≤ wc.heap.size) := ⟨lt_of_block' sj.xc, sj.bel.size⟩
              have HUS := Kp.mk (fun W (hW : Below w7.heap.size w7 W) (t : Int) => Uses_any q t W (by have := HS.out.vlt.few; unfold maxLen; omega) (HS.out.below (HB6.out.trans ((HB7.out.trans (hW.mono HB7.out.size)).mono HB6.out.size))).vlt.at'.row)
              have HOl : Kp (∀ W, Below w7.heap.size w7 W → W.cell? ⟨ob, 0, none⟩ = some (.int .i64 q.gen) ∧ W.cell? ⟨ob, 1, none⟩ = some (.int .i64 q.base) ∧ W.cell? ⟨ob, 2, none⟩ = some (.int .i64 q.snap) ∧ W.cell? ⟨ob, 3, none⟩ = some (.slice q.lo q.ll q.lc)) := ⟨fun W hW => cells4 ((hW.block _ (lt_of_block' HXO.out)).trans HXO.out)⟩
              obtain ⟨i0, hi0, hi1, hi2, hi3⟩ := info_parts infoFn2
              have HI0 := Kp.mk (And.intro hi0 (And.intro hi1 (And.intro hi2 hi3)))
              have HFK := Kp.mk (fun k => FK_len (fun t => !q.hv.uses t) k)
              unfold HdV.v at HUS
              clear hi0 hi1 hi2 hi3 k0 k7 k8 k9 k10 sj HPc
              go_wp2
              go_loopw [14, 15] (fun s t wr => ∃ (k cbo cap tbx : Nat) (tbf : Nat → Nat) (cs : List Value), s = .slice (some ⟨cbo, 0, none⟩) (7 + (FK (fun t => !q.hv.uses t) k).length) cap ∧ t = .pointer (some ⟨tbx, 0, none⟩) ∧ k ≤ 30 ∧ LpI wc wr (lfn v w.heap.size ab bb sb pb hb2) cb (fun t => !q.hv.uses t) k cbo cap tbx tbf cs) (fun _ t wr => leftP t wr)
              case atStart => exact ⟨0, cb, 7, wc.heap.size, fun _ => 0, _, rfl, rfl, by omega, heap_alloc_new wc _, HRow.out.alloc _, fun i hi => (by
                have h7 : i = 0 ∨ i = 1 ∨ i = 2 ∨ i = 3 ∨ i = 4 ∨ i = 5 ∨ i = 6 := by have : (FK (fun t => !q.hv.uses t) 0).length = 0 := rfl; omega
                rcases h7 with rfl | rfl | rfl | rfl | rfl | rfl | rfl <;> rfl), fun i hi => absurd hi (Nat.not_lt_zero i), Nat.le_refl _, .inl rfl, by have := HLt.out.1; omega, Chg.alloc _ _ _⟩
              case round =>
                obtain ⟨k, cbo, cap2, tbx, tbf, cs, rfl, rfl, hk, lp⟩ := hrel
                have LP := Kp.mk lp
                have HW7 : Kp (Below w7.heap.size w7 wr) := ⟨lp.chg.below HSj.out.bel HLt.out.2 HSj.out.gc⟩
                have x0 := one_cell lp.box
                clear lp
                by_cases hk2 : k < 30
                · have i1 : decide ((k : Int) + 2 < 32) = true := by rw [decide_eq_true_eq]; omega
                  have n1 : IntKind.i64.wrap ((k : Int) + 2 + 1) = (k : Int) + 2 + 1 := by rw [IntKind.wrap_i64]; omega
                  obtain ⟨o0, o1, o2, o3⟩ := HOl.out _ HW7.out
                  have HUk := Kp.mk (HUS.out wr HW7.out ((k : Int) + 2))
                  have hms : leftP (.pointer (some ⟨tbx, 0, none⟩)) wr = 30 - k := by
                    show leftAt tbx 32 wr = 30 - k
                    rw [leftAt_eq (q := k + 2) (by rw [x0]; congr 2)]; omega
                  have HKl : Kp ((FK (fun t => !q.hv.uses t) k).length ≤ 30) := ⟨by have := HFK.out k; omega⟩
                  cases hu : q.hv.uses ((k : Int) + 2)
                  · rw [hu] at HUk
                    have HUf : Kp ((fun t => !q.hv.uses t) ((k : Int) + 2) = true) := ⟨by simp [hu]⟩
                    clear hu
                    go_wp2_with fail
                    refine HUk.out.mono ?_
                    rintro e wu ⟨rfl, bu⟩
                    have L1 := Kp.mk (LP.out.below bu HLt.out.1)
                    have x1 := one_cell L1.out.box
                    clear bu HUk x0 o0 o1 o2 o3
                    go_wp2
                    go_roundw
                    case rel => exact ⟨k + 1, cbo, cap2, wu.heap.size, tbf, cs, by rw [show FK (fun t => !q.hv.uses t) (k + 1) = FK (fun t => !q.hv.uses t) k from by rw [FK_succ, if_pos HUf.out, List.append_nil]], rfl, by omega, L1.out.skip HUf.out⟩
                    case measure =>
                      rw [hms]
                      show leftAt wu.heap.size 32 _ < _
                      rw [leftAt_eq (q := k + 3) (by rw [one_cell (heap_alloc_new wu _)]; congr 2)]; omega
                  · rw [hu] at HUk
                    have HUf : Kp ((fun t => !q.hv.uses t) ((k : Int) + 2) = false) := ⟨by simp [hu]⟩
                    clear hu
                    go_wp2_with fail
                    refine HUk.out.mono ?_
                    rintro e wu ⟨rfl, bu⟩
                    have L1 := Kp.mk (LP.out.below bu HLt.out.1)
                    have HSrc := Kp.mk (src_one (heap_alloc_new wu (.cells #[.func (.func 80) #[] #[.pointer (some ⟨w.heap.size, 0, none⟩), .pointer (some ⟨tbx, 0, none⟩)]] 34)) rfl)
                    clear bu HUk x0 o0 o1 o2 o3
                    go_wp2_with (at_builtin; go_loud (refine wpList_append_src rfl _ _ 107 rfl (L1.out.row.alloc _) HSrc.out 34 i0 _ 8 Tryz.underlying107 HI0.out.1 HI0.out.2.1 HI0.out.2.2.1 HI0.out.2.2.2 rfl (by decide) rfl rfl (by simp [Value.oneCell']) (by have := HKl.out; unfold maxLen; omega) (by have := HKl.out; omega) _ _ rfl rfl ?_; intro a9 c9 wa r9 g9 f9; obtain ⟨cb9, hcb9, L9⟩ := L1.out.used HUf.out (fun f g n i hfg hi => lfn_congr _ _ _ _ _ _ _ f g n i hfg hi) _ (fun f => by rw [Nat.add_comm]; rfl) (by rw [Nat.add_comm]; rfl) r9 g9 f9 HLt.out.1; subst hcb9; have LU := Kp.mk L9; have y9 := one_cell (L1.out.old9 g9); clear r9 g9 f9 L9))
                    go_roundw
                    case rel => exact ⟨k + 1, cb9, c9, wa.heap.size, _, _, by rw [show (FK (fun t => !q.hv.uses t) (k + 1)).length = (FK (fun t => !q.hv.uses t) k).length + 1 from by rw [FK_succ, if_neg (by rw [HUf.out]; simp), List.length_append]; rfl]; rfl, rfl, by omega, LU.out⟩
                    case measure =>
                      rw [hms]
                      show leftAt wa.heap.size 32 _ < _
                      rw [leftAt_eq (q := k + 3) (by rw [one_cell (heap_alloc_new wa _)]; congr 2)]; omega
                · obtain rfl : k = 30 := by omega
                  have HLn : Kp ((FK (fun t => !q.hv.uses t) 30).length = (oldT q.hv).length) := ⟨by rw [oldT_FK]⟩
                  have i1 : decide ((32 : Int) < 32) = false := by decide
                  rw [show (((30 : Nat) : Int) + 2) = 32 from rfl] at x0
                  have S7 := HS.out.below (HB6.out.trans ((HB7.out.trans (HW7.out.mono HB7.out.size)).mono HB6.out.size))
                  obtain ⟨k0, k1, k2, k3, k4, k5, k6, k7, k8, k9, k10⟩ := HKt.out wr HW7.out
                  have XP := (LP.out.chg.block pb (lt_of_block' HSj.out.xp) (fun e => HSj.out.np (Option.some.inj e))).trans HSj.out.xp
                  have XH := (LP.out.chg.block hb2 (lt_of_block' HSj.out.xh) (fun e => HSj.out.nh (Option.some.inj e))).trans HSj.out.xh
                  have XL := ((HB7.out.trans (HW7.out.mono HB7.out.size)).block lb (lt_of_block' HH6.out.2)).trans HH6.out.2
                  have hz := HZ4.out
                  have hz2 : w.heap.size < w2.heap.size ∧ w2.heap.size ≤ ab ∧ w2.heap.size ≤ bb := ⟨HZ2.out.2.1, HZ2.out.2.2.1, HZ2.out.2.2.2.1⟩
                  have hz3 : w.heap.size ≤ lb := by have := HJ0.out.gl; have := HBc.out.size; omega
                  have hz5 : w.heap.size ≤ sb := by have := HZ3.out; have := HBe.out.size; omega
                  have hz6 : w.heap.size ≤ pb ∧ w.heap.size ≤ hb2 ∧ w.heap.size ≤ cb ∧ w.heap.size ≤ wc.heap.size := by have := HSj.out.gp; have := HSj.out.gh; have := HSj.out.gc; have := HLt.out; omega
                  have hz7 : w.heap.size ≤ cbo := by rcases LP.out.cbn with e | e <;> omega
                  have hlen := HFK.out 30
                  have HAll : Calls Tryz.prog 57 #[.slice (some ⟨cbo, 0, none⟩) (7 + (FK (fun t => !q.hv.uses t) 30).length) cap2] wr fun e w' => e = .returned (.int .i64 (layG D q.hv n F).1) ∧ (∃ p' : HdV, p'.hv = (layG D q.hv n F).2.2.1 ∧ VS w' g v (layG D q.hv n F).2.1 p' m (layG D q.hv n F).2.2.2 ∧ (p' = q ∨ p' = ⟨q.gen + 1, q.base + n, a, some ⟨lb, 0, none⟩, 1, 1, fun _ => b⟩)) ∧ Ch2 wr w' g v := by
                    unfold layG layR
                    rw [← HLn.out, HA.out, HBb.out, ← HPv.out]
                    exact lay_all wr g v cbo w.heap.size ab bb sb pb hb2 tbf cap2 _ cs D q ⟨q.gen + 1, q.base + n, a, some ⟨lb, 0, none⟩, 1, 1, fun _ => b⟩ m n a b F (layL q.hv) hlen S7 (may_log HM.out).1 LP.out.row LP.out.fns k0 k2 k3 k4 (by have := HFz.out; unfold maxLen; omega) (one_cell XP) XH
                      (fun j hj => by have := one_cell (LP.out.old j hj).1; rw [oldT_FK] at this; exact this) (rk_block XL) (fun k hk => by have hk : some lb = some k := hk; obtain rfl := Option.some.inj hk; constructor <;> omega) (by show (1 : Nat) ≤ 31; decide)
                      (by constructor <;> omega) (by constructor <;> omega) (by constructor <;> omega) (by constructor <;> omega) (by constructor <;> omega) (by constructor <;> omega) (by constructor <;> omega) (fun j hj => by have := (LP.out.old j hj).2.1; constructor <;> omega)
                  have HAl := Kp.mk HAll
                  have HEnd : Kp (Below w.heap.size w wr) := ⟨HB6.out.trans ((HB7.out.trans (HW7.out.mono HB7.out.size)).mono HB6.out.size)⟩
                  have HNl : Kp (w.heap.size ≤ lb) := ⟨hz3⟩
                  clear XP XH XL hz hz2 hz3 hz5 hz6 hz7 hlen HAll k0 k1 k2 k3 k4 k5 k6 k7 k8 k9 k10 S7
                  go_wp2_with fail
                  refine HAl.out.mono ?_
                  rintro e w9 ⟨rfl, ⟨p', hp', s9, hor⟩, c9⟩
                  have H9 := Kp.mk (And.intro hp' (And.intro s9 (And.intro hor ((Ch2.of_below HEnd.out g v).trans c9))))
                  clear hp' s9 hor c9 HAl
                  go_wp2
                  go_ret
                  exact ⟨by rw [hV2.out] <;> rfl, ⟨p', by rw [hV2.out]; exact H9.out.1, by rw [hV2.out]; exact H9.out.2.1, fun k hk => H9.out.2.2.1.elim (fun e => .inl (by rw [e] at hk; exact hk)) (fun e => .inr (by rw [e] at hk; have hk : some lb = some k := hk; obtain rfl := Option.some.inj hk; exact HNl.out))⟩, H9.out.2.2.2⟩
/-- Lay, whatever it is asked. -/
theorem Lay_any (g v : Nat) (D : DiskV) (q : HdV) (m : Int) (n : Nat) (s : ByteArray) (w : World) (h : VS w g v D q m n) (hm : q.hv.may = true) (hn : n ≤ 1000000000000) (hs : s.size ≤ 140737488351000) :
    Calls Tryz.prog 21 #[.pointer (some ⟨v, 0, none⟩), .string s] w fun e w' => e = .returned (.int .i64 (layV D q.hv n s).1) ∧ (∃ p' : HdV, p'.hv = (layV D q.hv n s).2.2.1 ∧ VS w' g v (layV D q.hv n s).2.1 p' m (layV D q.hv n s).2.2.2 ∧ ∀ k, blk (.slice p'.lo p'.ll p'.lc) = some k → blk (.slice q.lo q.ll q.lc) = some k ∨ w.heap.size ≤ k) ∧ Ch2 w w' g v := by
  by_cases hno : 262144 < s.size ∨ 1099511627776 < q.hv.base + n ∨ D.down = true ∨ 1099511627776 ≤ q.hv.gen ∨ q.hv.free.length < 2
  · exact Lay_no g v D q m n s w h hm hn hs hno
  · exact Lay_go g v D q m n s w h hm hn hs (fun h => hno (.inl h)) (fun h => hno (.inr (.inl h))) (by cases hd : D.down; rfl; exact absurd (.inr (.inr (.inl hd))) hno) (fun h => hno (.inr (.inr (.inr (.inl h))))) (fun h => hno (.inr (.inr (.inr (.inr h)))))
end Go.Proofs.YtpfoekfbcpinlaaGreatDoor
