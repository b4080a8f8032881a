/- Heads that come in; a row of numbers searched; whether a tape is a head's. -/
import Derived.Test.YtjpkncfmionieaaDoorSrc
import Derived.Test.YtjpkncfmionieaaDoorHeadTwo
namespace Go.Proofs.YtjpkncfmionieaaDoor
open Go.RowKit
set_option linter.unusedVariables false

/-- A row of numbers in the world. -/
def IntsAt (w : World) (ao : Option Addr) (len : Nat) (f : Nat → Int) : Prop := ∀ W, Below w.heap.size w W → ∀ j, j < len → ∃ a, ao = some a ∧ W.cell? (a.add j) = some (.int .i64 (f j))
theorem IntsAt.below {w w' : World} {ao : Option Addr} {len : Nat} {f : Nat → Int} (h : IntsAt w ao len f) (hb : Below w.heap.size w w') : IntsAt w' ao len f := fun W hW => h W (hb.trans (hW.mono hb.size))
def rowI (f : Nat → Int) (n : Nat) : List Int := (List.range n).map f
theorem rowI_succ (f : Nat → Int) (n : Nat) : rowI f (n + 1) = rowI f n ++ [f n] := by simp [rowI, List.range_succ]
theorem rowI_len (f : Nat → Int) (n : Nat) : (rowI f n).length = n := by simp [rowI]
theorem rowI_mem {f : Nat → Int} {n : Nat} {t : Int} : t ∈ rowI f n ↔ ∃ k, k < n ∧ f k = t := by simp [rowI]
structure HdV where
  gen : Int
  base : Int
  snap : Int
  lo : Option Addr
  ll : Nat
  lc : Nat
  lf : Nat → Int
def HdV.v (q : HdV) : Value := .agg #[.int .i64 q.gen, .int .i64 q.base, .int .i64 q.snap, .slice q.lo q.ll q.lc]
def HdV.hv (q : HdV) : Hd.HV := ⟨q.gen, q.base, q.snap, rowI q.lf q.ll⟩
def i64 (n : Int) : Prop := -9223372036854775808 ≤ n ∧ n ≤ 9223372036854775807
def HdV.ok (q : HdV) : Prop := i64 q.gen ∧ i64 q.base ∧ i64 q.snap ∧ q.ll ≤ maxLen ∧ ∀ j, j < q.ll → i64 (q.lf j)
set_option maxRecDepth 20000 in
theorem Index_any (ao : Option Addr) (len cap : Nat) (f : Nat → Int) (t : Int) (w : World) (hl : len ≤ maxLen) (hf : IntsAt w ao len f) :
    Calls Tryd.prog 77 #[.slice ao len cap, .int .i64 t] w fun e w' => (∃ r : Int, e = .returned (.int .i64 r) ∧ decide (0 ≤ r) = decide (t ∈ rowI f len)) ∧ ∃ m, w' = w.drewN m := by
  unfold maxLen at hl
  have HF := Kp.mk (hf w (Below.refl _ _))
  clear hf
  go_enter Tryd.func77, Tryd.ntmps77
  go_wp2
  go_loopw [8] (fun i wr => ∃ k m : Nat, k ≤ len ∧ i = .int .i64 k ∧ (∀ j, j < k → f j ≠ t) ∧ wr = w.drewN m) (fun i _ => len - (intOf i).toNat)
  case atStart => exact ⟨0, 0, by omega, rfl, fun j hj => absurd hj (Nat.not_lt_zero j), rfl⟩
  case round =>
    obtain ⟨k, md, hk, rfl, hno, rfl⟩ := hrel
    have HNo := Kp.mk hno
    clear hno
    by_cases hkl : k < len
    · obtain ⟨a, rfl, hc⟩ := HF.out k hkl
      have hk0 : (0 : Int) ≤ (k : Int) := by omega
      have hk1 : (k : Int) < (len : Int) := by omega
      by_cases he : f k = t
      · have HE := Kp.mk he
        rw [he] at hc
        clear he
        go_wp2
        go_ret
        refine ⟨⟨(k : Int), by trivial, ?_⟩, _, rfl⟩
        rw [decide_eq_true (by omega), decide_eq_true (rowI_mem.2 ⟨k, hkl, HE.out⟩)]
      · have HE : Kp (∀ j, j < k + 1 → f j ≠ t) := ⟨fun j hj => by
          by_cases h : j < k
          · exact HNo.out j h
          · obtain rfl : j = k := by omega
            exact he⟩
        have he' : decide (t = f k) = false := by rw [decide_eq_false_iff_not]; exact fun h => he h.symm
        have he'' : (t == f k) = false := by rw [beq_eq_false_iff_ne]; exact fun h => he h.symm
        clear he
        generalize f k = u at hc he' he''
        go_wp2
        go_roundw
        case rel => exact ⟨k + 1, _, by omega, by go_num, HE.out, rfl⟩
        case measure => simp [intOf]; omega
    · obtain rfl : k = len := by omega
      go_wp2
      go_ret
      refine ⟨⟨-1, by trivial, ?_⟩, _, rfl⟩
      rw [decide_eq_false (by omega), decide_eq_false (fun h => by obtain ⟨j, hj, hx⟩ := rowI_mem.1 h; exact HNo.out j hj hx)]
theorem Contains_any (ao : Option Addr) (len cap : Nat) (f : Nat → Int) (t : Int) (w : World) (hl : len ≤ maxLen) (hf : IntsAt w ao len f) :
    Calls Tryd.prog 55 #[.slice ao len cap, .int .i64 t] w fun e w' => e = .returned (.bool (decide (t ∈ rowI f len))) ∧ ∃ m, w' = w.drewN m := by
  have HI := Kp.mk (Index_any ao len cap f t w hl hf)
  clear hf
  obtain ⟨B, hB⟩ : ∃ B, decide (t ∈ rowI f len) = B := ⟨_, rfl⟩
  rw [hB] at HI ⊢
  clear hB
  go_enter Tryd.func55, Tryd.ntmps55
  go_wp2_with fail
  refine HI.out.mono ?_
  rintro e w' ⟨⟨r, rfl, hr⟩, m, rfl⟩
  go_wp2
  go_ret
  exact ⟨by trivial, _, rfl⟩
theorem tape_any (t : Int) (w : World) : Calls Tryd.prog 40 #[.int .i64 t] w fun e w' => e = .returned (.bool (decide (2 ≤ t) && decide (t < 32))) ∧ w' = w := by
  by_cases h1 : 2 ≤ t
  · by_cases h2 : t < 32
    · have t1 : decide (2 ≤ t) = true := decide_eq_true h1
      have t2 : decide (t < 32) = true := decide_eq_true h2
      rw [t1, t2]
      go_enter Tryd.func40, Tryd.ntmps40
      go_wp2
      go_ret
      exact ⟨by trivial, rfl⟩
    · have t1 : decide (2 ≤ t) = true := decide_eq_true h1
      have t2 : decide (t < 32) = false := decide_eq_false h2
      rw [t1, t2]
      go_enter Tryd.func40, Tryd.ntmps40
      go_wp2
      go_ret
      exact ⟨by trivial, rfl⟩
  · have t1 : decide (2 ≤ t) = false := decide_eq_false h1
    rw [t1]
    go_enter Tryd.func40, Tryd.ntmps40
    go_wp2
    go_ret
    exact ⟨by trivial, rfl⟩
set_option maxHeartbeats 1000000 in
theorem Uses_any (q : HdV) (t : Int) (w : World) (hl : q.ll ≤ maxLen) (hf : IntsAt w q.lo q.ll q.lf) :
    Calls Tryd.prog 20 #[q.v, .int .i64 t] w fun e w' => e = .returned (.bool (q.hv.uses t)) ∧ Below w.heap.size w w' := by
  obtain ⟨gen, base, snap, lo, ll, lc, lf⟩ := q
  unfold HdV.v
  simp only [] at hl hf
  have HC := Kp.mk (fun W (hW : Below w.heap.size w W) => Contains_any lo ll lc lf t W hl (hf.below hW))
  have hb0 : Below w.heap.size w (w.alloc (.cells #[.int .i64 gen, .int .i64 base, .int .i64 snap, .slice lo ll lc] 24)) := (Below.refl _ _).alloc (Nat.le_refl _) _
  have HB := Kp.mk hb0
  clear hf hb0
  by_cases hA : t ≠ 0 ∧ snap = t
  · obtain ⟨hz, rfl⟩ := hA
    have hv : (HdV.hv ⟨gen, base, snap, lo, ll, lc, lf⟩).uses snap = true := by simp [Hd.HV.uses, HdV.hv, hz]
    rw [hv]
    clear hv
    go_enter Tryd.func20, Tryd.ntmps20
    go_wp2
    go_ret
    exact ⟨by trivial, HB.out⟩
  · have hv : (HdV.hv ⟨gen, base, snap, lo, ll, lc, lf⟩).uses t = decide (t ∈ rowI lf ll) := by
      unfold Hd.HV.uses HdV.hv
      have : (decide (t ≠ 0) && decide (snap = t)) = false := by
        rw [Bool.and_eq_false_iff]
        by_cases h0 : t = 0
        · exact .inl (by simp [h0])
        · exact .inr (decide_eq_false (fun h => hA ⟨h0, h⟩))
      simp only [this, Bool.false_or, List.contains_eq_mem]
    rw [hv]
    clear hv
    obtain ⟨B, hB⟩ : ∃ B, decide (t ∈ rowI lf ll) = B := ⟨_, rfl⟩
    rw [hB] at HC ⊢
    clear hB
    by_cases hz : t = 0
    · subst hz
      go_enter Tryd.func20, Tryd.ntmps20
      go_wp2_with fail
      refine (HC.out _ HB.out).mono ?_
      rintro e w' ⟨rfl, m, rfl⟩
      go_wp2
      go_ret
      exact ⟨by trivial, ⟨HB.out.os, HB.out.tape, HB.out.output, HB.out.size, HB.out.block⟩⟩
    · have hs : ¬ snap = t := fun h => hA ⟨hz, h⟩
      clear hA
      go_enter Tryd.func20, Tryd.ntmps20
      go_wp2_with fail
      refine (HC.out _ HB.out).mono ?_
      rintro e w' ⟨rfl, m, rfl⟩
      go_wp2
      go_ret
      have e1 : (snap == t) = false := by rw [beq_eq_false_iff_ne]; exact hs
      exact ⟨by show Ending.returned (Value.bool (t != 0 && snap == t || B)) = _; rw [e1, Bool.and_false, Bool.false_or], ⟨HB.out.os, HB.out.tape, HB.out.output, HB.out.size, HB.out.block⟩⟩
end Go.Proofs.YtjpkncfmionieaaDoor
/- A head's tapes; which heads may be. -/
namespace Go.Proofs.YtjpkncfmionieaaDoor
open Go.RowKit
set_option linter.unusedVariables false

theorem RK.block {z n q : Nat} {W : World} {cs : Array Value} {T : TypeId} (h : W.heap[q]? = some (.cells cs T (0, 0))) (hz : cs.size = n * z) (hn : n ≤ maxLen) : RK z W (.slice (some ⟨q, 0, none⟩) n n) n cs.toList := by
  refine ⟨by simpa using hz, .inr ⟨q, n, rfl, Nat.le_refl _, hn, fun _ => ⟨src_lt h, fun j u hu => ?_, fun j hj => ?_⟩⟩⟩
  · simp [World.cell?, h]; simpa using hu
  · have : j < cs.size := by omega
    simp [World.cell?, World.frozen?, h, this]
def numL (f : Nat → Int) (n : Nat) : List Value := (rowI f n).map fun x => .int .i64 x
theorem numL_len (f : Nat → Int) (n : Nat) : (numL f n).length = n := by simp [numL, rowI_len]
theorem numL_get (f : Nat → Int) (n j : Nat) (h : j < n) : (numL f n)[j]? = some (.int .i64 (f j)) := by
  simp [numL, rowI, h]
theorem num_one (l : List Int) : ∀ u ∈ l.map (fun x => Value.int .i64 x), u.oneCell' = true := by
  intro u hu
  obtain ⟨x, _, rfl⟩ := List.mem_map.1 hu
  rfl
theorem infoInt : (Tryd.prog.info? 3).map (fun i => (i.zero, i.size, i.bytes)) = some (some (.int .i64 0), 1, 8) := by kernel_rfl
/-- Numbers in the world, as what is appended. -/
theorem IntsAt.src {w : World} {ao : Option Addr} {len cap : Nat} {f : Nat → Int} (h : IntsAt w ao len f) (hs : (ao = none ∧ len = 0 ∧ cap = 0) ∨ ∃ a, ao = some a) (W : World) (hb : Below w.heap.size w W) : Src 1 W (.slice ao len cap) len (numL f len) := by
  refine ⟨by rw [numL_len]; omega, ?_⟩
  rcases hs with ⟨rfl, rfl, rfl⟩ | ⟨a, rfl⟩
  · exact .inl ⟨rfl, rfl⟩
  · refine .inr ⟨a, cap, rfl, fun j u hu => ?_⟩
    have hj : j < len := by
      have := (List.getElem?_eq_some_iff.1 hu).1
      rwa [numL_len] at this
    rw [numL_get f len j hj] at hu
    obtain rfl := Option.some.inj hu
    obtain ⟨a', ha', hc⟩ := h W hb j hj
    obtain rfl := Option.some.inj ha'
    exact hc
theorem RK.ints {W : World} {g n cap : Nat} {f : Nat → Int} (hr : RK 1 W (.slice (some ⟨g, 0, none⟩) n cap) n (numL f n)) : IntsAt W (some ⟨g, 0, none⟩) n f := fun W' hb j hj => by
  refine ⟨_, rfl, ?_⟩
  rw [Addr.add_lit, Nat.zero_add]
  exact (hr.below hb).cell j _ (numL_get f n j hj)
/-- A number ahead of others. -/
def ahead (x : Int) (f : Nat → Int) : Nat → Int
  | 0 => x
  | k + 1 => f k
theorem rowI_ahead (x : Int) (f : Nat → Int) (n : Nat) : rowI (ahead x f) (n + 1) = x :: rowI f n := by
  unfold rowI
  rw [List.range_succ_eq_map, List.map_cons, List.map_map]
  rfl
set_option maxHeartbeats 1000000 in
theorem tapes_any (q : HdV) (w : World) (hl : q.ll + 1 ≤ maxLen) (h47 : (q.ll + 1) * 8 ≤ 140737488355328) (hs : (q.lo = none ∧ q.ll = 0 ∧ q.lc = 0) ∨ ∃ a, q.lo = some a) (hf : IntsAt w q.lo q.ll q.lf) :
    Calls Tryd.prog 39 #[q.v] w fun e w' => ∃ ao n cap g, e = .returned (.slice ao n cap) ∧ rowI g n = q.hv.tapes ∧ n ≤ q.ll + 1 ∧ Below w.heap.size w w' ∧ ((ao = q.lo ∧ n = q.ll ∧ g = q.lf) ∨ ∃ gb, ao = some ⟨gb, 0, none⟩ ∧ w.heap.size ≤ gb ∧ RK 1 w' (.slice ao n cap) n (numL g n)) := by
  obtain ⟨gen, base, snap, lo, ll, lc, lf⟩ := q
  unfold HdV.v HdV.hv Hd.HV.tapes
  simp only [] at hl h47 hs hf ⊢
  have hb0 : Below w.heap.size w (w.alloc (.cells #[.int .i64 gen, .int .i64 base, .int .i64 snap, .slice lo ll lc] 24)) := (Below.refl _ _).alloc (Nat.le_refl _) _
  have HB := Kp.mk hb0
  by_cases h0 : snap = 0
  · subst h0
    rw [if_pos rfl]
    clear hf hb0 hs
    go_enter Tryd.func39, Tryd.ntmps39
    go_wp2
    go_ret
    exact ⟨lo, ll, lc, lf, by trivial, rfl, by omega, HB.out, .inl ⟨rfl, rfl, rfl⟩⟩
  · rw [if_neg h0]
    have hb1 : Below w.heap.size w ((w.alloc (.cells #[.int .i64 gen, .int .i64 base, .int .i64 snap, .slice lo ll lc] 24)).alloc (.cells #[.int .i64 snap] 3)) := hb0.alloc (by simp) _
    have HB1 := Kp.mk hb1
    have HR : Kp (RK 1 ((w.alloc (.cells #[.int .i64 gen, .int .i64 base, .int .i64 snap, .slice lo ll lc] 24)).alloc (.cells #[.int .i64 snap] 3)) (.slice (some ⟨w.heap.size + 1, 0, none⟩) 1 1) 1 [.int .i64 snap]) := ⟨RK.block (heap_second w _ _) rfl (by decide)⟩
    have HSrc := Kp.mk (hf.src (cap := lc) hs _ hb1)
    have HAd : Kp ([.int .i64 snap] ++ numL lf ll = numL (ahead snap lf) (ll + 1)) := ⟨by unfold numL; rw [rowI_ahead]; rfl⟩
    have HOne := Kp.mk (num_one (rowI lf ll))
    obtain ⟨i0, hi0, hi1, hi2, hi3⟩ := info_parts infoInt
    have HI := Kp.mk (And.intro hi0 (And.intro hi1 (And.intro hi2 hi3)))
    have HLM : Kp (1 + ll ≤ maxLen ∧ (1 + ll) * 8 ≤ 140737488355328) := ⟨by omega⟩
    clear hf hb0 hb1 hs hi0 hi1 hi2 hi3 hl h47
    go_enter Tryd.func39, Tryd.ntmps39
    go_wp2_with (at_builtin; go_loud (refine wpList_append_src rfl _ _ 22 rfl HR.out HSrc.out 3 i0 _ 8 Tryd.underlying22 HI.out.1 HI.out.2.1 HI.out.2.2.1 HI.out.2.2.2 rfl (by decide) rfl rfl HOne.out HLM.out.1 HLM.out.2 (ll + 1) _ (by omega) HAd.out ?_; intro ao cap w3 k1 k2 k3; have K1 := Kp.mk k1; have K2 := Kp.mk (HB1.out.grown k2 (by simp; omega) (fun j e => by simp [blk] at e; omega)); have K3 : Kp (∀ j, blk (.slice ao (ll + 1) cap) = some j → w.heap.size ≤ j) := ⟨fun j e => (k3 j e).elim (fun h => by simp [blk] at h; omega) (fun h => by simp at h; omega)⟩; clear k1 k2 k3))
    go_ret
    obtain ⟨g, cp, he, _, _, _, hbk⟩ := K1.out.at_ (by omega)
    have hgb := K3.out g hbk
    simp only [Value.slice.injEq] at he
    obtain ⟨rfl, _, rfl⟩ := he
    exact ⟨_, ll + 1, _, ahead snap lf, by trivial, rowI_ahead _ _ _, Nat.le_refl _, K2.out, .inr ⟨g, rfl, hgb, K1.out⟩⟩
end Go.Proofs.YtjpkncfmionieaaDoor
/- The tapes that are none of a head's. -/
namespace Go.Proofs.YtjpkncfmionieaaDoor
open Go.RowKit
set_option linter.unusedVariables false

/-- The first k of the tapes from 2 on, but those that are used. -/
def FK (U : Int → Bool) (k : Nat) : List Int := ((List.range k).map fun (j : Nat) => (j : Int) + 2).filter fun t => !U t
theorem FK_succ (U : Int → Bool) (k : Nat) : FK U (k + 1) = FK U k ++ if U ((k : Int) + 2) = true then [] else [(k : Int) + 2] := by
  unfold FK
  rw [List.range_succ, List.map_append, List.filter_append]
  congr 1
  cases h : U ((k : Int) + 2) <;> simp [h]
theorem FK_len (U : Int → Bool) (k : Nat) : (FK U k).length ≤ k := by
  unfold FK
  exact Nat.le_trans (List.length_filter_le _ _) (by simp)
theorem RK.row {W : World} {ao : Option Addr} {n cap : Nat} {l : List Int} (hr : RK 1 W (.slice ao n cap) n (l.map fun x => Value.int .i64 x)) : ∃ g, rowI g n = l ∧ IntsAt W ao n g := by
  have hn : l.length = n := by simpa using hr.1
  subst hn
  refine ⟨fun j => l.getD j 0, ?_, ?_⟩
  · apply List.ext_getElem (by rw [rowI_len])
    intro i h1 h2
    simp [rowI, h2]
  · intro W' hb j hj
    obtain ⟨g, cp, he, _⟩ := hr.at_ (by omega)
    simp only [Value.slice.injEq] at he
    obtain ⟨rfl, _, rfl⟩ := he
    refine ⟨_, rfl, ?_⟩
    rw [Addr.add_lit, Nat.zero_add]
    exact (hr.below hb).cell j _ (by simp [hj])
theorem cells4 {W : World} {b : Nat} {c0 c1 c2 c3 : Value} {T : TypeId} (h : W.heap[b]? = some (.cells #[c0, c1, c2, c3] T (0, 0))) : W.cell? ⟨b, 0, none⟩ = some c0 ∧ W.cell? ⟨b, 1, none⟩ = some c1 ∧ W.cell? ⟨b, 2, none⟩ = some c2 ∧ W.cell? ⟨b, 3, none⟩ = some c3 := by
  refine ⟨?_, ?_, ?_, ?_⟩ <;> simp [World.cell?, h]
set_option maxRecDepth 20000 in
set_option maxHeartbeats 2000000 in
theorem Free_any (q : HdV) (w : World) (hl : q.ll ≤ maxLen) (hf : IntsAt w q.lo q.ll q.lf) :
    Calls Tryd.prog 21 #[q.v] w fun e w' => ∃ ao n cap g, e = .returned (.slice ao n cap) ∧ rowI g n = q.hv.free ∧ IntsAt w' ao n g ∧ Below w.heap.size w w' := by
  have HU := Kp.mk (fun W (hW : Below w.heap.size w W) (t : Int) => Uses_any q t W hl (hf.below hW))
  obtain ⟨gen, base, snap, lo, ll, lc, lf⟩ := q
  unfold Hd.HV.free
  generalize (HdV.hv ⟨gen, base, snap, lo, ll, lc, lf⟩).uses = U at HU ⊢
  have HFK : Kp (Hd.R.filter (fun t => !U t) = FK U 30) := ⟨rfl⟩
  rw [HFK.out]
  unfold HdV.v at HU ⊢
  clear hf hl HFK
  simp only [] at HU ⊢
  have hbx := heap_alloc_new w (.cells #[.int .i64 gen, .int .i64 base, .int .i64 snap, .slice lo ll lc] 24)
  have hb1 : Below w.heap.size w (w.alloc (.cells #[.int .i64 gen, .int .i64 base, .int .i64 snap, .slice lo ll lc] 24)) := (Below.refl _ _).alloc (Nat.le_refl _) _
  have hz1 : (w.alloc (.cells #[.int .i64 gen, .int .i64 base, .int .i64 snap, .slice lo ll lc] 24)).heap.size = w.heap.size + 1 := by simp
  obtain ⟨i0, hi0, hi1, hi2, hi3⟩ := info_parts infoInt
  have HI := Kp.mk (And.intro hi0 (And.intro hi1 (And.intro hi2 hi3)))
  clear hi0 hi1 hi2 hi3
  go_enter Tryd.func21, Tryd.ntmps21
  go_wp2
  obtain ⟨w1, hw1⟩ : ∃ w1, w.alloc (.cells #[.int .i64 gen, .int .i64 base, .int .i64 snap, .slice lo ll lc] 24) = w1 := ⟨_, rfl⟩
  rw [hw1] at hbx hb1 hz1 ⊢
  have B1 := Kp.mk hb1
  have HKeep : Kp (∀ W, Below w1.heap.size w1 W → W.cell? ⟨w.heap.size, 0, none⟩ = some (.int .i64 gen) ∧ W.cell? ⟨w.heap.size, 1, none⟩ = some (.int .i64 base) ∧ W.cell? ⟨w.heap.size, 2, none⟩ = some (.int .i64 snap) ∧ W.cell? ⟨w.heap.size, 3, none⟩ = some (.slice lo ll lc)) := ⟨fun W hW => cells4 ((hW.block _ (by omega)).trans hbx)⟩
  clear hbx hb1 hz1 hw1
  generalize hbb : w.heap.size = b at HKeep ⊢
  go_loopw [3, 4] (fun o i wr => ∃ k : Nat, k ≤ 30 ∧ i = .int .i64 ((k : Int) + 2) ∧ RK 1 wr o (FK U k).length ((FK U k).map fun x => Value.int .i64 x) ∧ (∀ j, blk o = some j → w1.heap.size ≤ j) ∧ Below w1.heap.size w1 wr) (fun _ i _ => 32 - (intOf i).toNat)
  case atStart => exact ⟨0, by omega, rfl, RK.nil 1 _, fun j h => by simp [blk] at h, Below.refl _ _⟩
  case round =>
    obtain ⟨k, hk, rfl, hr, hnew, hb⟩ := hrel
    obtain ⟨ao, cp, rfl, _, _⟩ := hr.len
    have HR := Kp.mk hr
    have HN := Kp.mk hnew
    have HB := Kp.mk hb
    clear hr hnew hb
    by_cases hk2 : k < 30
    · obtain ⟨k0, k1, k2, k3⟩ := HKeep.out _ HB.out
      have i1 : decide ((k : Int) + 2 < 32) = true := by rw [decide_eq_true_eq]; omega
      have n1 : IntKind.i64.wrap ((k : Int) + 2 + 1) = (k : Int) + 2 + 1 := by rw [IntKind.wrap_i64]; omega
      have HUk := Kp.mk (HU.out _ (B1.out.trans (HB.out.mono B1.out.size)) ((k : Int) + 2))
      have HFS := Kp.mk (FK_succ U k)
      have HFL := Kp.mk (FK_len U k)
      cases hu : U ((k : Int) + 2)
      · rw [hu] at HUk HFS
        clear hu
        go_wp2_with fail
        refine HUk.out.mono ?_
        rintro e w5 ⟨rfl, b5⟩
        have B5 := Kp.mk (HB.out.trans (b5.mono HB.out.size))
        have R5 := Kp.mk ((HR.out.below b5).alloc (.cells #[.int .i64 ((k : Int) + 2)] 3))
        clear b5 k0 k1 k2 k3
        have HIN := Kp.mk (src_one (heap_alloc_new w5 (.cells #[.int .i64 ((k : Int) + 2)] 3)) rfl)
        have HLM : Kp ((FK U k).length + 1 ≤ maxLen ∧ ((FK U k).length + 1) * 8 ≤ 140737488355328) := ⟨by have := HFL.out; unfold maxLen; omega⟩
        go_wp2_with (at_builtin; go_loud (refine wpList_append_src rfl _ _ 22 rfl R5.out HIN.out 3 i0 _ 8 Tryd.underlying22 HI.out.1 HI.out.2.1 HI.out.2.2.1 HI.out.2.2.2 rfl (by decide) rfl rfl (by simp [Value.oneCell']) HLM.out.1 HLM.out.2 _ _ rfl rfl ?_; intro ao2 cap2 w6 k1 k2 k3; have K1 := Kp.mk k1; have K2 := Kp.mk ((B5.out.alloc B5.out.size _).grown k2 (by simp; have := B5.out.size; omega) (fun j e => HN.out j e)); have K3 : Kp (∀ j, blk (.slice ao2 ((FK U k).length + 1) cap2) = some j → w1.heap.size ≤ j) := ⟨fun j e => (k3 j e).elim (fun h => HN.out j h) (fun h => by simp at h; have := B5.out.size; omega)⟩; clear k1 k2 k3))
        go_roundw
        case rel => exact ⟨k + 1, by omega, by go_num, by rw [HFS.out]; simpa using K1.out, K3.out, K2.out⟩
        case measure => simp [intOf]; omega
      · rw [hu] at HUk HFS
        clear hu
        go_wp2_with fail
        refine HUk.out.mono ?_
        rintro e w5 ⟨rfl, b5⟩
        have B5 := Kp.mk (HB.out.trans (b5.mono HB.out.size))
        have R5 := Kp.mk (HR.out.below b5)
        clear b5 k0 k1 k2 k3
        go_wp2
        go_roundw
        case rel => exact ⟨k + 1, by omega, by go_num, by rw [HFS.out]; simpa using R5.out, HN.out, B5.out⟩
        case measure => simp [intOf]; omega
    · obtain rfl : k = 30 := by omega
      obtain ⟨g, hg, hia⟩ := HR.out.row
      have HG := Kp.mk hg
      have HIA := Kp.mk hia
      clear hg hia
      go_wp2
      go_ret
      exact ⟨ao, _, cp, g, by trivial, HG.out, HIA.out, B1.out.trans (HB.out.mono B1.out.size)⟩
end Go.Proofs.YtjpkncfmionieaaDoor
