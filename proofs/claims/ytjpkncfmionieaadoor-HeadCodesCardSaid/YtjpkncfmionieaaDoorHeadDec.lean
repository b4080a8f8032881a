/- Decode, the state: a reader, a head's box that grows, what is read. -/
import Derived.Test.YtjpkncfmionieaaDoorHeadEnc
namespace Go.Proofs.YtjpkncfmionieaaDoor
open Go.RowKit
set_option linter.unusedVariables false

theorem rV_facts (l : List UInt8) (p e most : Nat) (hp : p ≤ l.length) (he : e ≤ 42) : (Var.rVarint l p e most).1 ≤ most ∧ (Var.rVarint l p e most).2.1 ≤ l.length ∧ (Var.rVarint l p e most).2.2 ≤ 42 := by
  by_cases h : e = 0
  · subst h
    obtain ⟨h1, h2, h3, h4, h5⟩ := Var.rVarint_facts l p most hp
    exact ⟨h5, h2, by omega⟩
  · rw [Hd.rV_stuck l p e most h]
    exact ⟨Nat.zero_le _, hp, he⟩
theorem readN_snoc (l : List UInt8) : ∀ (k p e : Nat), Hd.readN l (k + 1) p e = ((Hd.readN l k p e).1 ++ [((Var.rVarint l (Hd.readN l k p e).2.1 (Hd.readN l k p e).2.2 31).1 : Int)], (Var.rVarint l (Hd.readN l k p e).2.1 (Hd.readN l k p e).2.2 31).2)
  | 0, p, e => by simp [Hd.readN]
  | k + 1, p, e => by
    have ih := readN_snoc l k (Var.rVarint l p e 31).2.1 (Var.rVarint l p e 31).2.2
    rw [Hd.readN, ih, Hd.readN]
    simp only [List.cons_append]
theorem readN_facts (l : List UInt8) : ∀ (k p e : Nat), p ≤ l.length → e ≤ 42 → (Hd.readN l k p e).2.1 ≤ l.length ∧ (Hd.readN l k p e).2.2 ≤ 42 ∧ ∀ t ∈ (Hd.readN l k p e).1, 0 ≤ t ∧ t ≤ 31
  | 0, p, e, hp, he => by simp [Hd.readN]; omega
  | k + 1, p, e, hp, he => by
    obtain ⟨h1, h2, h3⟩ := rV_facts l p e 31 hp he
    obtain ⟨i1, i2, i3⟩ := readN_facts l k _ _ h2 h3
    rw [Hd.readN]
    refine ⟨i1, i2, fun t ht => ?_⟩
    rcases List.mem_cons.1 ht with rfl | ht
    · omega
    · exact i3 t ht
def numC (l : List Int) : List Value := l.map fun x => .int .i64 x
/-- A head of the call's own: its row may be written. -/
structure HdOwn (B : Nat) (w : World) (q : HdV) : Prop where
  row : RK 1 w (.slice q.lo q.ll q.lc) q.ll (numL q.lf q.ll)
  new : ∀ k, blk (.slice q.lo q.ll q.lc) = some k → B ≤ k
  few : q.ll ≤ 31
theorem HdOwn.at' {B : Nat} {w : World} {q : HdV} (h : HdOwn B w q) : HdAt w q := by
  have hf := h.few
  refine ⟨by unfold maxLen; omega, by omega, ?_, fun W hW j hj => ?_⟩
  · rcases h.row.2 with ⟨h1, h2⟩ | ⟨g, cap, h1, _⟩
    · simp only [Value.slice.injEq] at h1
      exact .inl h1
    · simp only [Value.slice.injEq] at h1
      exact .inr ⟨_, h1.1⟩
  · obtain ⟨g, cap, h1, _⟩ := h.row.at_ (by omega)
    simp only [Value.slice.injEq] at h1
    obtain ⟨e1, _, e2⟩ := h1
    have hr := h.row
    rw [e1] at hr
    refine ⟨_, e1, ?_⟩
    rw [Addr.add_lit, Nat.zero_add]
    exact (hr.below hW).cell j _ (numL_get _ _ _ hj)
theorem HdOwn.below {B : Nat} {w w' : World} {q : HdV} (h : HdOwn B w q) (hb : Below w.heap.size w w') : HdOwn B w' q := ⟨h.row.below hb, h.new, h.few⟩
theorem HdOwn.mono {B C : Nat} {w : World} {q : HdV} (h : HdOwn B w q) (hc : C ≤ B) : HdOwn C w q := ⟨h.row, fun k hk => Nat.le_trans hc (h.new k hk), h.few⟩
def HdV.zero : HdV := ⟨0, 0, 0, none, 0, 0, fun _ => 0⟩
theorem HdOwn.zero (B : Nat) (w : World) : HdOwn B w HdV.zero := ⟨RK.nil 1 w, fun k hk => by simp [HdV.zero, blk] at hk, by decide⟩
theorem HdOwn.set {B : Nat} {w : World} {q : HdV} (h : HdOwn B w q) (p : Addr) (u : Value) (hp : p.block < B) : HdOwn B (w.setCell p u) q := ⟨h.row.set p u (fun k hk => by have := h.new k hk; omega), h.new, h.few⟩
theorem numC_numL {l : List Int} {g : Nat → Int} {n : Nat} (h : rowI g n = l) : numL g n = numC l := by rw [← h]; rfl
theorem exists_row (l : List Int) (n : Nat) (h : l.length = n) : ∃ g : Nat → Int, rowI g n = l := by
  subst h
  refine ⟨fun j => l.getD j 0, ?_⟩
  apply List.ext_getElem (by rw [rowI_len])
  intro i h1 h2
  simp [rowI, h2]
structure DecS (w1 wr : World) (g b5 : Nat) (s : ByteArray) (p e : Nat) (gen base snap : Int) (ao : Option Addr) (n cap : Nat) (l : List Int) : Prop where
  rd : Rd wr g s p e
  box : wr.heap[b5]? = some (.cells #[.int .i64 gen, .int .i64 base, .int .i64 snap, .slice ao n cap] 24 (0, 0))
  row : RK 1 wr (.slice ao n cap) n (numC l)
  new : ∀ k, blk (.slice ao n cap) = some k → b5 < k
  below : Below w1.heap.size w1 wr
  hg : w1.heap.size ≤ g
  gb : g < b5
section
variable {w1 wr : World} {g b5 : Nat} {s : ByteArray} {p e : Nat} {gen base snap : Int} {ao : Option Addr} {n cap : Nat} {l : List Int}
theorem DecS.drew (h : DecS w1 wr g b5 s p e gen base snap ao n cap l) : DecS w1 wr.drew g b5 s p e gen base snap ao n cap l :=
  ⟨h.rd, h.box, h.row, h.new, ⟨h.below.os, h.below.tape, h.below.output, h.below.size, h.below.block⟩, h.hg, h.gb⟩
theorem DecS.blt (h : DecS w1 wr g b5 s p e gen base snap ao n cap l) : b5 < wr.heap.size := lt_of_block' h.box
theorem DecS.free (h : DecS w1 wr g b5 s p e gen base snap ao n cap l) (j : Nat) : wr.frozen? ⟨b5, j, none⟩ = false := by simp [World.frozen?, h.box]
theorem DecS.read (h : DecS w1 wr g b5 s p e gen base snap ao n cap l) {w5 : World} {p' e' : Nat} (hr : Rd w5 g s p' e') (hg : wr.grownBy w5 (some g)) : DecS w1 w5 g b5 s p' e' gen base snap ao n cap l := by
  have hgb := h.gb
  have hgg := h.hg
  refine ⟨hr, (hg.block b5 h.blt (fun e => by cases e; omega)).trans h.box, h.row.kept hg (fun k hk e => ?_), h.new, h.below.grown hg h.below.size (fun k e => by cases e; exact h.hg), h.hg, h.gb⟩
  cases e
  have := h.new _ hk
  omega
theorem DecS.alloc (h : DecS w1 wr g b5 s p e gen base snap ao n cap l) (o : Obj) : DecS w1 (wr.alloc o) g b5 s p e gen base snap ao n cap l := by
  have hb : Below wr.heap.size wr (wr.alloc o) := (Below.refl _ _).alloc (Nat.le_refl _) _
  exact ⟨(hb.block g h.rd.lt).trans h.rd, (hb.block b5 h.blt).trans h.box, h.row.below hb, h.new, h.below.trans (hb.mono h.below.size), h.hg, h.gb⟩
theorem DecS.grown (h : DecS w1 wr g b5 s p e gen base snap ao n cap l) {w6 : World} {a2 : Option Addr} {m c2 : Nat} {l' : List Int} (r1 : RK 1 w6 (.slice a2 m c2) m (numC l')) (g1 : wr.grownBy w6 (blk (.slice ao n cap))) (f1 : Fresh wr (.slice ao n cap) (.slice a2 m c2)) :
    w6.heap[b5]? = some (.cells #[.int .i64 gen, .int .i64 base, .int .i64 snap, .slice ao n cap] 24 (0, 0)) ∧ DecS w1 (w6.setCell ⟨b5, 3, none⟩ (.slice a2 m c2)) g b5 s p e gen base snap a2 m c2 l' := by
  have hgb := h.gb
  have hgg := h.hg
  have hbl := h.blt
  have hbox := (g1.block b5 h.blt (fun e => by have := h.new b5 e.symm; omega)).trans h.box
  have hrd : Rd w6 g s p e := (g1.block g h.rd.lt (fun e => by have := h.new g e.symm; omega)).trans h.rd
  have hnew : ∀ k, blk (.slice a2 m c2) = some k → b5 < k := fun k hk => (f1 k hk).elim (h.new k) (fun h => by omega)
  have hb6 : Below w1.heap.size w1 w6 := h.below.grown g1 h.below.size (fun k e => by have := h.new k e; omega)
  refine ⟨hbox, ?_, ?_, r1.set _ _ (fun k hk e => ?_), hnew, hb6.setCell (p := ⟨b5, 3, none⟩) (by show w1.heap.size ≤ b5; omega) _, h.hg, h.gb⟩
  · exact (Below.heap_setCell w6 ⟨b5, 3, none⟩ _ g (by show g ≠ b5; omega)).trans hrd
  · exact heap_setCell_same w6 b5 3 _ _ _ hbox
  · have := hnew k hk
    simp only [] at e
    omega
theorem DecS.set1 (h : DecS w1 wr g b5 s p e gen base snap ao n cap l) (x : Int) : DecS w1 (wr.setCell ⟨b5, 1, none⟩ (.int .i64 x)) g b5 s p e gen x snap ao n cap l := by
  have hgb := h.gb
  have hgg := h.hg
  refine ⟨(Below.heap_setCell wr ⟨b5, 1, none⟩ _ g (by show g ≠ b5; omega)).trans h.rd, heap_setCell_same wr b5 1 _ _ _ h.box, h.row.set _ _ (fun k hk e => ?_), h.new, h.below.setCell (p := ⟨b5, 1, none⟩) (by show w1.heap.size ≤ b5; omega) _, h.hg, h.gb⟩
  have := h.new k hk
  simp only [] at e
  omega
theorem DecS.set2 (h : DecS w1 wr g b5 s p e gen base snap ao n cap l) (x : Int) : DecS w1 (wr.setCell ⟨b5, 2, none⟩ (.int .i64 x)) g b5 s p e gen base x ao n cap l := by
  have hgb := h.gb
  have hgg := h.hg
  refine ⟨(Below.heap_setCell wr ⟨b5, 2, none⟩ _ g (by show g ≠ b5; omega)).trans h.rd, heap_setCell_same wr b5 2 _ _ _ h.box, h.row.set _ _ (fun k hk e => ?_), h.new, h.below.setCell (p := ⟨b5, 2, none⟩) (by show w1.heap.size ≤ b5; omega) _, h.hg, h.gb⟩
  have := h.new k hk
  simp only [] at e
  omega
end
end Go.Proofs.YtjpkncfmionieaaDoor
