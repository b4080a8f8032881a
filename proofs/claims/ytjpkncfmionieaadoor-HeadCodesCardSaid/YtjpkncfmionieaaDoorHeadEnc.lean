/- A head's bytes: the walk of Encode, of Size. -/
import Derived.Test.YtjpkncfmionieaaDoorHeadMayTwo
import Derived.Test.YtjpkncfmionieaaDoorFrameRead
namespace Go.Proofs.YtjpkncfmionieaaDoor
open Go.RowKit
set_option linter.unusedVariables false

/-- A head that comes in, as it lies in the world. -/
structure HdAt (w : World) (q : HdV) : Prop where
  len : q.ll + 1 ≤ maxLen
  h47 : (q.ll + 1) * 8 ≤ 140737488355328
  nil : (q.lo = none ∧ q.ll = 0 ∧ q.lc = 0) ∨ ∃ a, q.lo = some a
  row : IntsAt w q.lo q.ll q.lf
theorem HdAt.below {w w' : World} {q : HdV} (h : HdAt w q) (hb : Below w.heap.size w w') : HdAt w' q := ⟨h.len, h.h47, h.nil, h.row.below hb⟩
theorem May_at {w : World} {q : HdV} (h : HdAt w q) : Calls Tryd.prog 11 #[q.v] w fun e w' => e = .returned (.bool q.hv.may) ∧ Below w.heap.size w w' := May_any q w h.len h.h47 h.nil h.row
/-- Bytes that a call has put, in a row of its own. -/
def Own (B : Nat) (w0 wr : World) (v : Value) (l : List UInt8) : Prop := BRow wr B v l ∧ Below B w0 wr ∧ B ≤ wr.heap.size ∧ ∀ k, v.ownBlock = some k → B ≤ k
theorem Own.start (w0 : World) : Own w0.heap.size w0 w0 (.slice none 0 0) [] := ⟨BRow.nil _ _, Below.refl _ _, Nat.le_refl _, fun k h => by simp [Value.ownBlock] at h⟩
theorem putOwn {B : Nat} {w0 wr : World} {v : Value} {l : List UInt8} (x : Int) (h : Own B w0 wr v l) (hl : l.length ≤ 140737488355000) (h0 : 0 ≤ x) (h1 : x < 18446744073709551616) :
    Calls Tryd.prog 38 #[v, .int .u64 x] wr fun e w' => ∃ v', e = .returned v' ∧ Own B w0 w' v' (l ++ Var.vb x.toNat) := by
  obtain ⟨n, rfl⟩ := Int.eq_ofNat_of_zero_le h0
  obtain ⟨a, b, c, d⟩ := h
  refine (PutUvarint_any v B l n wr a c hl (by omega)).mono fun e w' ⟨v', he, h1, h2, h3⟩ => ⟨v', he, ?_⟩
  rw [Int.toNat_natCast]
  exact ⟨h1, b.grown h2 c d, Nat.le_trans c h2.size, fun k hk => (h3 k hk).elim (d k) (fun h => by omega)⟩
def f4 (a b c d : Int) : Nat → Int
  | 0 => a
  | 1 => b
  | 2 => c
  | _ => d
theorem f4_row (a b c d : Int) : rowI (f4 a b c d) 4 = [a, b, c, d] := rfl
theorem f4_cells {W : World} {b : Nat} {c0 c1 c2 c3 : Int} {T : TypeId} (h : W.heap[b]? = some (.cells #[.int .i64 c0, .int .i64 c1, .int .i64 c2, .int .i64 c3] T (0, 0))) (k : Nat) (hk : k < 4) : W.cell? ⟨b, k, none⟩ = some (.int .i64 (f4 c0 c1 c2 c3 k)) := by
  obtain ⟨h0, h1, h2, h3⟩ := cells4 h
  match k, hk with
  | 0, _ => exact h0
  | 1, _ => exact h1
  | 2, _ => exact h2
  | 3, _ => exact h3
theorem logB_succ (f : Nat → Int) (k : Nat) : Hd.logB (rowI f (k + 1)) = Hd.logB (rowI f k) ++ Var.vb (f k).toNat := by
  unfold Hd.logB
  rw [rowI_succ, List.flatMap_append]
  simp
theorem logB_len : ∀ (l : List Int), (∀ t ∈ l, t < 18446744073709551616) → (Hd.logB l).length ≤ 10 * l.length
  | [], _ => by simp [Hd.logB]
  | t :: r, h => by
    have h1 := logB_len r (fun u hu => h u (List.mem_cons_of_mem _ hu))
    have h2 := h t (List.mem_cons_self ..)
    have h3 := Var.vb_len10 (n := t.toNat) (by omega)
    have hc : (Hd.logB (t :: r)).length = (Var.vb t.toNat).length + (Hd.logB r).length := by simp [Hd.logB]
    rw [hc, List.length_cons]
    omega
theorem enc_eq (gen base snap : Int) (f : Nat → Int) (n : Nat) : (⟨gen, base, snap, rowI f n⟩ : Hd.HV).enc = Hd.logB (rowI (f4 gen base snap n) 4) ++ Hd.logB (rowI f n) := by
  rw [f4_row]
  simp [Hd.HV.enc, Hd.logB, rowI_len]
theorem Encode_no (q : HdV) (w : World) (h : HdAt w q) (hm : q.hv.may = false) :
    Calls Tryd.prog 10 #[q.v] w fun e w' => e = .returned (.tuple #[.string ⟨#[]⟩, .int .i64 4]) ∧ Below w.heap.size w w' := by
  have HM := Kp.mk (fun W (hW : Below w.heap.size w W) => May_at (h.below hW))
  rw [hm] at HM
  clear h hm
  obtain ⟨gen, base, snap, lo, ll, lc, lf⟩ := q
  unfold HdV.v at HM ⊢
  simp only [] at HM ⊢
  have HB1 := Kp.mk ((Below.refl w.heap.size w).alloc (Nat.le_refl _) (.cells #[.int .i64 gen, .int .i64 base, .int .i64 snap, .slice lo ll lc] 24))
  go_enter Tryd.func10, Tryd.ntmps10
  go_wp2_with fail
  refine (HM.out _ HB1.out).mono ?_
  rintro e w2 ⟨rfl, b2⟩
  have B2 := Kp.mk (HB1.out.trans (b2.mono HB1.out.size))
  clear b2
  go_wp2
  go_ret2
  exact ⟨by trivial, B2.out⟩
set_option maxRecDepth 20000 in
set_option maxHeartbeats 2000000 in
theorem Encode_yes (q : HdV) (w : World) (h : HdAt w q) (hm : q.hv.may = true) :
    Calls Tryd.prog 10 #[q.v] w fun e w' => e = .returned (.tuple #[.string (B q.hv.enc), .int .i64 0]) ∧ Below w.heap.size w w' := by
  have HM := Kp.mk (fun W (hW : Below w.heap.size w W) => May_at (h.below hW))
  rw [hm] at HM
  obtain ⟨g1, g2, b1, b2, hne, _⟩ := Hd.may_first hm
  obtain ⟨⟨s1, s2⟩, ht⟩ := Hd.may_tapes hm
  have hn := (Hd.HV.few hm).2
  obtain ⟨gen, base, snap, lo, ll, lc, lf⟩ := q
  have HROW := Kp.mk h.row
  have HEN := Kp.mk (enc_eq gen base snap lf ll)
  unfold HdV.v at HM ⊢
  unfold HdV.hv at ht g1 g2 b1 b2 s1 s2 hn ⊢
  simp only [rowI_len] at HM g1 g2 b1 b2 s1 s2 hn ht HROW ⊢
  rw [HEN.out]
  obtain ⟨pre, hpre⟩ : ∃ p, Hd.logB (rowI (f4 gen base snap ll) 4) = p := ⟨_, rfl⟩
  rw [hpre]
  have HPre := Kp.mk hpre
  clear hpre
  have HT : Kp (∀ k, k < ll → 2 ≤ lf k ∧ lf k < 32) := ⟨fun k hk => ht _ (rowI_mem.2 ⟨k, hk, rfl⟩)⟩
  have HF : Kp (∀ k, k < 4 → 0 ≤ f4 gen base snap ll k ∧ f4 gen base snap ll k ≤ 1099511627776) := ⟨fun k hk => by
    match k, hk with
    | 0, _ => exact ⟨by show 0 ≤ gen; omega, g2⟩
    | 1, _ => exact ⟨b1, b2⟩
    | 2, _ => exact ⟨s1, by show snap ≤ _; omega⟩
    | 3, _ => exact ⟨by show (0 : Int) ≤ ll; omega, by show (ll : Int) ≤ _; omega⟩⟩
  have HS := Kp.mk (fun k => logB_succ (f4 gen base snap ll) k)
  have HS2 := Kp.mk (fun k => logB_succ lf k)
  have HL4 : Kp (∀ k, k ≤ 4 → (Hd.logB (rowI (f4 gen base snap ll) k)).length ≤ 40) := ⟨fun k hk => by
    have := logB_len (rowI (f4 gen base snap ll) k) (fun t hx => by
      obtain ⟨j, hj, rfl⟩ := rowI_mem.1 hx
      have := (HF.out j (by omega)).2
      omega)
    rw [rowI_len] at this
    omega⟩
  have HLL : Kp (∀ k, k ≤ ll → (Hd.logB (rowI lf k)).length ≤ 300) := ⟨fun k hk => by
    have := logB_len (rowI lf k) (fun t hx => by
      obtain ⟨j, hj, rfl⟩ := rowI_mem.1 hx
      have := (HT.out j (by omega)).2
      omega)
    rw [rowI_len] at this
    omega⟩
  have hbx := heap_alloc_new w (.cells #[.int .i64 gen, .int .i64 base, .int .i64 snap, .slice lo ll lc] 24)
  have HB1 := Kp.mk ((Below.refl w.heap.size w).alloc (Nat.le_refl _) (.cells #[.int .i64 gen, .int .i64 base, .int .i64 snap, .slice lo ll lc] 24))
  clear h hm hne ht g1 g2 b1 b2 s1 s2 HEN
  go_enter Tryd.func10, Tryd.ntmps10
  go_wp2_with fail
  refine (HM.out _ HB1.out).mono ?_
  rintro e w2 ⟨rfl, b2⟩
  have B2 := Kp.mk (HB1.out.trans (b2.mono HB1.out.size))
  have hlt := B2.out.size
  obtain ⟨k0, k1, k2, k3⟩ := cells4 ((b2.block _ (by simp)).trans hbx)
  have HC4 : Kp (∀ W, Below (w2.heap.size + 1) (w2.alloc (.cells #[.int .i64 gen, .int .i64 base, .int .i64 snap, .int .i64 ll] 2)) W → W.cell? ⟨w.heap.size, 3, none⟩ = some (.slice lo ll lc) ∧ ∀ k, k < 4 → W.cell? ⟨w2.heap.size, k, none⟩ = some (.int .i64 (f4 gen base snap ll k))) := ⟨fun W hW => by
    have hw1 : w.heap.size < w2.heap.size := by have := b2.size; simp at this; omega
    refine ⟨?_, f4_cells ((hW.block _ (by omega)).trans (heap_alloc_new w2 _))⟩
    have := hW.cell (p := ⟨w.heap.size, 3, none⟩) (by simp only []; omega)
    rw [this]
    have h2 := ((Below.refl w2.heap.size w2).alloc (Nat.le_refl _) (.cells #[.int .i64 gen, .int .i64 base, .int .i64 snap, .int .i64 ll] 2)).cell (p := ⟨w.heap.size, 3, none⟩) (by simp only []; omega)
    rw [h2]
    exact k3⟩
  have HB3 : Kp (Below w.heap.size w (w2.alloc (.cells #[.int .i64 gen, .int .i64 base, .int .i64 snap, .int .i64 ll] 2))) := ⟨B2.out.alloc hlt _⟩
  have HO3 : Kp (Own (w2.heap.size + 1) (w2.alloc (.cells #[.int .i64 gen, .int .i64 base, .int .i64 snap, .int .i64 ll] 2)) (w2.alloc (.cells #[.int .i64 gen, .int .i64 base, .int .i64 snap, .int .i64 ll] 2)) (.slice none 0 0) []) := ⟨by
    have := Own.start (w2.alloc (.cells #[.int .i64 gen, .int .i64 base, .int .i64 snap, .int .i64 ll] 2))
    rwa [show (w2.alloc (.cells #[.int .i64 gen, .int .i64 base, .int .i64 snap, .int .i64 ll] 2)).heap.size = w2.heap.size + 1 from by simp] at this⟩
  have HQ : Kp (w.heap.size ≤ w2.heap.size) := ⟨hlt⟩
  clear b2 hbx HM
  go_wp2
  generalize w2.alloc (.cells #[.int .i64 gen, .int .i64 base, .int .i64 snap, .int .i64 ll] 2) = w3 at *
  generalize f4 gen base snap ll = F at *
  clear k0 k1 k2 k3 B2 HB1 hlt
  generalize hq : w2.heap.size = q4 at *
  generalize hq2 : w.heap.size = q0 at *
  go_loopw [4, 23] (fun v i wr => ∃ k : Nat, k ≤ 4 ∧ i = .int .i64 k ∧ Own (q4 + 1) w3 wr v (Hd.logB (rowI F k))) (fun _ i _ => 4 - (intOf i).toNat)
  case atStart => exact ⟨0, by omega, rfl, HO3.out⟩
  case round =>
    clear HO3
    obtain ⟨k, hk, rfl, ho⟩ := hrel
    have HO := Kp.mk ho
    by_cases hkl : k < 4
    · have hk0 : (0 : Int) ≤ (k : Int) := by omega
      have hk1 : (k : Int) < 4 := by omega
      have hc := (HC4.out _ ho.2.1).2 k hkl
      obtain ⟨hx0, hx1⟩ := HF.out k hkl
      have HSk := Kp.mk (HS.out k)
      have HLk := Kp.mk (HL4.out k hk)
      clear ho
      generalize F k = x at hc hx0 hx1 HSk
      go_wp2_with fail
      refine (putOwn x HO.out (by have := HLk.out; omega) hx0 (by omega)).mono ?_
      rintro e w5 ⟨v5, rfl, o5⟩
      rw [← HSk.out] at o5
      have O5 := Kp.mk o5
      clear o5
      go_wp2
      go_roundw
      case rel => exact ⟨k + 1, by omega, by go_num, O5.out⟩
      case measure => simp [intOf]; omega
    · obtain rfl : k = 4 := by omega
      rw [show ((4 : Nat) : Int) = 4 from rfl]
      have hc3 := (HC4.out _ ho.2.1).1
      have HI : Kp (∀ W, Below (q4 + 1) w3 W → IntsAt W lo ll lf) := ⟨fun W hW => HROW.out.below (by rw [hq2]; exact HB3.out.trans (hW.mono (by have := HQ.out; omega)))⟩
      have HO' := Kp.mk ho
      clear ho HO HC4 HROW HF HS
      have HL4k := Kp.mk (HL4.out 4 (Nat.le_refl _))
      clear HL4
      rw [HPre.out] at HL4k HO'
      clear HPre
      go_wp2
      go_loopw [4, 35] (fun v i wr => ∃ k : Nat, k ≤ ll ∧ i = .int .i64 k ∧ Own (q4 + 1) w3 wr v (pre ++ Hd.logB (rowI lf k))) (fun _ i _ => ll - (intOf i).toNat)
      case atStart => exact ⟨0, by omega, rfl, by have := HO'.out; simpa [rowI, Hd.logB] using this⟩
      case round =>
        clear HO'
        obtain ⟨k, hk, rfl, ho⟩ := hrel
        have HO := Kp.mk ho
        have HLk := Kp.mk (HLL.out k hk)
        by_cases hkl : k < ll
        · have hk0 : (0 : Int) ≤ (k : Int) := by omega
          have hk1 : (k : Int) < (ll : Int) := by omega
          obtain ⟨a, rfl, hc⟩ := HI.out _ ho.2.1 _ (Below.refl _ _) k hkl
          obtain ⟨hx0, hx1⟩ := HT.out k hkl
          have HSk := Kp.mk (HS2.out k)
          clear ho
          generalize lf k = x at hc hx0 hx1 HSk
          go_wp2_with fail
          refine (putOwn x HO.out (by rw [List.length_append]; have := HLk.out; have := HL4k.out; omega) (by omega) (by omega)).mono ?_
          rintro e w5 ⟨v5, rfl, o5⟩
          rw [List.append_assoc, ← HSk.out] at o5
          have O5 := Kp.mk o5
          clear o5
          go_wp2
          go_roundw
          case rel => exact ⟨k + 1, by omega, by go_num, O5.out⟩
          case measure => simp [intOf]; omega
        · obtain rfl : k = ll := by omega
          have hc := ho.1.string 9 Tryd.underlying9
          have HBe : Kp (Below q0 w wr) := ⟨HB3.out.trans (ho.2.1.mono (by have := HQ.out; omega))⟩
          clear ho
          go_wp2
          go_ret2
          exact ⟨rfl, by rw [hq2]; exact HBe.out⟩
/-- Encode's answer. -/
def encV (h : Hd.HV) : ByteArray × Nat := if h.may = true then (B h.enc, 0) else (⟨#[]⟩, 4)
theorem Encode_any (q : HdV) (w : World) (h : HdAt w q) :
    Calls Tryd.prog 10 #[q.v] w fun e w' => e = .returned (.tuple #[.string (encV q.hv).1, .int .i64 (encV q.hv).2]) ∧ Below w.heap.size w w' := by
  unfold encV
  cases hm : q.hv.may
  · simp only [Bool.false_eq_true, if_false]
    exact Encode_no q w h hm
  · simp only [if_true]
    exact Encode_yes q w h hm
def HSize (h : Hd.HV) : Nat := if h.may = true then h.enc.length + 9 else 0
theorem enc_len {h : Hd.HV} (hm : h.may = true) : h.enc.length ≤ 340 := by
  obtain ⟨g1, g2, b1, b2, hne, _⟩ := Hd.may_first hm
  obtain ⟨⟨s1, s2⟩, ht⟩ := Hd.may_tapes hm
  have hn := (Hd.HV.few hm).2
  have h1 := logB_len h.log (fun t hx => by have := ht t hx; omega)
  have v1 := Var.vb_len10 (n := h.gen.toNat) (by omega)
  have v2 := Var.vb_len10 (n := h.base.toNat) (by omega)
  have v3 := Var.vb_len10 (n := h.snap.toNat) (by omega)
  have v4 := Var.vb_len10 (n := h.log.length) (by omega)
  simp only [Hd.HV.enc, List.length_append]
  omega
theorem HSize_any (q : HdV) (w : World) (h : HdAt w q) :
    Calls Tryd.prog 14 #[q.v] w fun e w' => e = .returned (.int .i64 (HSize q.hv : Nat)) ∧ Below w.heap.size w w' := by
  have HE := Kp.mk (fun W (hW : Below w.heap.size w W) => Encode_any q W (h.below hW))
  have hb : Below w.heap.size w (w.alloc (.cells #[.int .i64 q.gen, .int .i64 q.base, .int .i64 q.snap, .slice q.lo q.ll q.lc] 24)) := (Below.refl _ _).alloc (Nat.le_refl _) _
  have HB := Kp.mk hb
  unfold HSize
  unfold encV at HE
  cases hm : q.hv.may
  · rw [hm] at HE
    simp only [Bool.false_eq_true, if_false] at HE ⊢
    unfold HdV.v at HE ⊢
    clear hm h hb
    go_enter Tryd.func14, Tryd.ntmps14
    go_wp2_with fail
    refine (HE.out _ HB.out).mono ?_
    rintro e w2 ⟨rfl, b2⟩
    have B2 := Kp.mk (HB.out.trans (b2.mono HB.out.size))
    clear b2
    go_wp2
    go_ret
    exact ⟨by trivial, B2.out⟩
  · rw [hm] at HE
    simp only [if_true] at HE ⊢
    have hl := enc_len hm
    have hbs : (B q.hv.enc).size = q.hv.enc.length := B_size _
    have HZ : Kp (∀ W, Calls Tryd.prog 45 #[.int .i64 (q.hv.enc.length : Nat)] W fun e w' => e = .returned (.int .i64 ((q.hv.enc.length + 9 : Nat) : Int)) ∧ W = w') := ⟨fun W => (Size_any (q.hv.enc.length : Nat) W (by omega) (by omega)).mono fun e w' h => by
      rw [sizeV, if_neg (by omega)] at h
      exact h⟩
    generalize B q.hv.enc = s at hbs HE
    generalize q.hv.enc.length = n at hbs HZ hl ⊢
    unfold HdV.v at HE ⊢
    have HS := Kp.mk hbs
    clear hm h hb hbs
    go_enter Tryd.func14, Tryd.ntmps14
    go_wp2_with fail
    refine (HE.out _ HB.out).mono ?_
    rintro e w2 ⟨rfl, b2⟩
    have B2 := Kp.mk (HB.out.trans (b2.mono HB.out.size))
    clear b2
    go_wp2_with fail
    rw [HS.out]
    refine (HZ.out _).mono ?_
    rintro e w' ⟨rfl, rfl⟩
    go_wp2
    go_ret
    exact ⟨by trivial, B2.out⟩
end Go.Proofs.YtjpkncfmionieaaDoor
