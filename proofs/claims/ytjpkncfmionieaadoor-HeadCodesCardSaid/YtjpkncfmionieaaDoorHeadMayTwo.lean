/- Which heads may be: the walk. -/
import Derived.Test.YtjpkncfmionieaaDoorHeadFree
import Derived.Test.YtjpkncfmionieaaDoorDiskThree
namespace Go.Proofs.YtjpkncfmionieaaDoor
open Go.RowKit
set_option linter.unusedVariables false

/-- The array of what was seen. -/
def SeenAt (w : World) (s : Nat) (f : Nat → Int) : Prop := ∃ cs : Array Value, w.heap[s]? = some (.cells cs 66 (0, 0)) ∧ cs.size = 32 ∧ ∀ t, t < 32 → cs[t]? = some (.int .i64 (f t))
theorem SeenAt.cell {w : World} {s : Nat} {f : Nat → Int} (h : SeenAt w s f) (t : Nat) (ht : t < 32) : w.cell? ⟨s, t, none⟩ = some (.int .i64 (f t)) := by
  obtain ⟨cs, h1, _, h3⟩ := h
  simp [World.cell?, h1, h3 t ht]
theorem SeenAt.free {w : World} {s : Nat} {f : Nat → Int} (h : SeenAt w s f) (t : Nat) : w.frozen? ⟨s, t, none⟩ = false := by
  obtain ⟨cs, h1, _, _⟩ := h
  simp [World.frozen?, h1]
theorem SeenAt.lt {w : World} {s : Nat} {f : Nat → Int} (h : SeenAt w s f) : s < w.heap.size := by
  obtain ⟨cs, h1, _, _⟩ := h
  exact lt_of_block h1
theorem SeenAt.below {w w' : World} {s : Nat} {f : Nat → Int} (h : SeenAt w s f) (hb : Below w.heap.size w w') : SeenAt w' s f := by
  have hl := h.lt
  obtain ⟨cs, h1, h2⟩ := h
  exact ⟨cs, (hb.block s hl).trans h1, h2⟩
theorem SeenAt.set {w : World} {s : Nat} {f : Nat → Int} (h : SeenAt w s f) (t : Nat) (ht : t < 32) (x : Int) : SeenAt (w.setCell ⟨s, t, none⟩ (.int .i64 x)) s (fun j => if j = t then x else f j) := by
  obtain ⟨cs, h1, h2, h3⟩ := h
  refine ⟨_, heap_setCell_same w s _ cs _ _ h1, by simpa using h2, fun j hj => ?_⟩
  rw [get_set _ _ _ _ (by omega)]
  by_cases e : t = j
  · subst e; simp
  · rw [if_neg (by omega)]
    rw [h3 j hj]
    simp only []
    rw [if_neg (by omega)]
/-- Were the first k tapes good, and no one twice? -/
def Fine (g : Nat → Int) (k : Nat) : Prop := (∀ t ∈ rowI g k, 2 ≤ t ∧ t < 32) ∧ (rowI g k).Nodup
theorem Fine.may {g : Nat → Int} {n : Nat} (h : Fine g n) : Hd.mayT [] (rowI g n) = true :=
  (Hd.mayT_iff _ _).2 ⟨fun t ht => ⟨(h.1 t ht).1, (h.1 t ht).2, by simp⟩, h.2⟩
theorem Fine.succ {g : Nat → Int} {k : Nat} (h : Fine g k) (h1 : 2 ≤ g k ∧ g k < 32) (h2 : g k ∉ rowI g k) : Fine g (k + 1) := by
  unfold Fine
  rw [rowI_succ]
  refine ⟨fun t ht => ?_, ?_⟩
  · rcases List.mem_append.1 ht with h3 | h3
    · exact h.1 t h3
    · rw [List.mem_singleton] at h3; subst h3; exact h1
  · refine List.nodup_append.2 ⟨h.2, by simp, fun a ha b hb e => ?_⟩
    rw [List.mem_singleton] at hb
    subst hb; subst e
    exact h2 ha
theorem not_may {g : Nat → Int} {n k : Nat} (hk : k < n) (h : ¬ (2 ≤ g k ∧ g k < 32) ∨ g k ∈ rowI g k) : Hd.mayT [] (rowI g n) = false := by
  rw [Bool.eq_false_iff]
  intro hm
  obtain ⟨h1, h2⟩ := (Hd.mayT_iff _ _).1 hm
  have hin : g k ∈ rowI g n := rowI_mem.2 ⟨k, hk, rfl⟩
  rcases h with h | h
  · exact h ⟨(h1 _ hin).1, (h1 _ hin).2.1⟩
  · obtain ⟨j, hj, e⟩ := rowI_mem.1 h
    have := List.pairwise_iff_getElem.1 h2 j k (by rw [rowI_len]; omega) (by rw [rowI_len]; omega) hj
    simp [rowI] at this
    exact this e
/-- The row of tapes: it came in, or lies behind what was seen. -/
def RowIn (w wr : World) (s : Nat) (ao : Option Addr) (n cap : Nat) (g : Nat → Int) : Prop := IntsAt w ao n g ∨ ∃ gb, ao = some ⟨gb, 0, none⟩ ∧ s < gb ∧ RK 1 wr (.slice ao n cap) n (numL g n)
theorem RowIn.cell {w wr : World} {s n cap : Nat} {ao : Option Addr} {g : Nat → Int} (h : RowIn w wr s ao n cap g) (hb : Below w.heap.size w wr) (j : Nat) (hj : j < n) : ∃ a, ao = some a ∧ wr.cell? (a.add j) = some (.int .i64 (g j)) := by
  rcases h with h | ⟨gb, rfl, _, h⟩
  · exact h wr hb j hj
  · refine ⟨_, rfl, ?_⟩
    rw [Addr.add_lit, Nat.zero_add]
    exact h.cell j _ (numL_get g n j hj)
theorem RowIn.set {w wr : World} {s n cap : Nat} {ao : Option Addr} {g : Nat → Int} (h : RowIn w wr s ao n cap g) (t : Nat) (v : Value) : RowIn w (wr.setCell ⟨s, t, none⟩ v) s ao n cap g := by
  rcases h with h | ⟨gb, rfl, hs, h⟩
  · exact .inl h
  · refine .inr ⟨gb, rfl, hs, h.set _ _ fun k hk => ?_⟩
    cases cap with
    | zero => simp [blk] at hk
    | succ c => simp [blk] at hk; simp only []; omega
def seenF (g : Nat → Int) (k : Nat) : Nat → Int := fun t => if (t : Int) ∈ rowI g k then 1 else 0
theorem seenF_yes {g : Nat → Int} {k t : Nat} (h : (t : Int) ∈ rowI g k) : seenF g k t = 1 := if_pos h
theorem seenF_no {g : Nat → Int} {k t : Nat} (h : (t : Int) ∉ rowI g k) : seenF g k t = 0 := if_neg h
theorem seenF_succ {g : Nat → Int} {k t : Nat} (h : g k = (t : Int)) : (fun j => if j = t then 1 else seenF g k j) = seenF g (k + 1) := by
  funext j
  unfold seenF
  rw [rowI_succ, h]
  by_cases e : j = t
  · subst e; simp
  · have : ¬ ((j : Int) = (t : Int)) := by omega
    simp [e, this]
theorem zero32 : (#[.int .i64 0, .int .i64 0, .int .i64 0, .int .i64 0, .int .i64 0, .int .i64 0, .int .i64 0, .int .i64 0, .int .i64 0, .int .i64 0, .int .i64 0, .int .i64 0, .int .i64 0, .int .i64 0, .int .i64 0, .int .i64 0, .int .i64 0, .int .i64 0, .int .i64 0, .int .i64 0, .int .i64 0, .int .i64 0, .int .i64 0, .int .i64 0, .int .i64 0, .int .i64 0, .int .i64 0, .int .i64 0, .int .i64 0, .int .i64 0, .int .i64 0, .int .i64 0] : Array Value) = Array.replicate 32 (.int .i64 0) := rfl
set_option maxRecDepth 20000 in
set_option maxHeartbeats 4000000 in
theorem May_any (q : HdV) (w : World) (hl : q.ll + 1 ≤ maxLen) (h47 : (q.ll + 1) * 8 ≤ 140737488355328) (hs : (q.lo = none ∧ q.ll = 0 ∧ q.lc = 0) ∨ ∃ a, q.lo = some a) (hf : IntsAt w q.lo q.ll q.lf) :
    Calls Tryd.prog 11 #[q.v] w fun e w' => e = .returned (.bool q.hv.may) ∧ Below w.heap.size w w' := by
  have HT := Kp.mk (fun W (hW : Below w.heap.size w W) => tapes_any q W hl h47 hs (hf.below hW))
  obtain ⟨gen, base, snap, lo, ll, lc, lf⟩ := q
  have HB0 : Kp (Below w.heap.size w (w.alloc (.cells #[.int .i64 gen, .int .i64 base, .int .i64 snap, .slice lo ll lc] 24))) := ⟨(Below.refl _ _).alloc (Nat.le_refl _) _⟩
  have hm : (HdV.hv ⟨gen, base, snap, lo, ll, lc, lf⟩).may = (decide (1 ≤ gen ∧ gen ≤ 1099511627776 ∧ 0 ≤ base ∧ base ≤ 1099511627776 ∧ rowI lf ll ≠ [] ∧ ¬ (snap = 0 ∧ 0 < base)) && Hd.mayT [] (HdV.hv ⟨gen, base, snap, lo, ll, lc, lf⟩).tapes) := rfl
  rw [hm]
  have hne : rowI lf ll ≠ [] ↔ ll ≠ 0 := by
    have := rowI_len lf ll
    constructor
    · intro h e; subst e; exact h rfl
    · intro h e; rw [e] at this; exact h (by simpa using this.symm)
  clear hm
  unfold HdV.v at HT ⊢
  simp only [] at HT hl h47 hf ⊢
  have HF := Kp.mk hf
  clear hs hf
  generalize hM : Hd.mayT [] (HdV.hv ⟨gen, base, snap, lo, ll, lc, lf⟩).tapes = M
  have HM := Kp.mk hM
  clear hM
  unfold maxLen at hl
  by_cases c1 : gen < 1
  · rw [decide_eq_false (by omega), Bool.false_and]
    have t1 : decide (gen < 1) = true := decide_eq_true (by omega)
    clear HT
    go_enter Tryd.func11, Tryd.ntmps11
    go_wp2
    go_ret
    exact ⟨by trivial, HB0.out⟩
  by_cases c2 : 1099511627776 < gen
  · rw [decide_eq_false (by omega), Bool.false_and]
    have t1 : decide (gen < 1) = false := decide_eq_false (by omega)
    have t2 : decide (1099511627776 < gen) = true := decide_eq_true (by omega)
    clear HT
    go_enter Tryd.func11, Tryd.ntmps11
    go_wp2
    go_ret
    exact ⟨by trivial, HB0.out⟩
  by_cases c3 : base < 0
  · rw [decide_eq_false (by omega), Bool.false_and]
    have t1 : decide (gen < 1) = false := decide_eq_false (by omega)
    have t2 : decide (1099511627776 < gen) = false := decide_eq_false (by omega)
    have t3 : decide (base < 0) = true := decide_eq_true (by omega)
    clear HT
    go_enter Tryd.func11, Tryd.ntmps11
    go_wp2
    go_ret
    exact ⟨by trivial, HB0.out⟩
  by_cases c4 : 1099511627776 < base
  · rw [decide_eq_false (by omega), Bool.false_and]
    have t1 : decide (gen < 1) = false := decide_eq_false (by omega)
    have t2 : decide (1099511627776 < gen) = false := decide_eq_false (by omega)
    have t3 : decide (base < 0) = false := decide_eq_false (by omega)
    have t4 : decide (1099511627776 < base) = true := decide_eq_true (by omega)
    clear HT
    go_enter Tryd.func11, Tryd.ntmps11
    go_wp2
    go_ret
    exact ⟨by trivial, HB0.out⟩
  have t1 : decide (gen < 1) = false := decide_eq_false (by omega)
  have t2 : decide (1099511627776 < gen) = false := decide_eq_false (by omega)
  have t3 : decide (base < 0) = false := decide_eq_false (by omega)
  have t4 : decide (1099511627776 < base) = false := decide_eq_false (by omega)
  by_cases c5 : ll = 0
  · rw [decide_eq_false (fun h => (hne.1 h.2.2.2.2.1) c5), Bool.false_and]
    subst c5
    clear HT
    go_enter Tryd.func11, Tryd.ntmps11
    go_wp2
    go_ret
    exact ⟨by trivial, HB0.out⟩
  have t5 : ((ll : Int) == 0) = false := by rw [beq_eq_false_iff_ne]; omega
  by_cases c6 : snap = 0 ∧ 0 < base
  · rw [decide_eq_false (fun h => h.2.2.2.2.2 c6), Bool.false_and]
    obtain ⟨rfl, c7⟩ := c6
    have t6 : decide (0 < base) = true := decide_eq_true (by omega)
    clear HT
    go_enter Tryd.func11, Tryd.ntmps11
    go_wp2
    go_ret
    exact ⟨by trivial, HB0.out⟩
  rw [decide_eq_true (show 1 ≤ gen ∧ gen ≤ 1099511627776 ∧ 0 ≤ base ∧ base ≤ 1099511627776 ∧ rowI lf ll ≠ [] ∧ ¬ (snap = 0 ∧ 0 < base) from ⟨by omega, by omega, by omega, by omega, hne.2 c5, c6⟩), Bool.true_and]
  clear hne
  by_cases h0 : snap = 0
  · have t7 : decide (0 < base) = false := decide_eq_false (fun h => c6 ⟨h0, h⟩)
    subst h0
    clear c6
    go_enter Tryd.func11, Tryd.ntmps11
    go_wp2_with fail
    refine (HT.out _ (HB0.out.alloc (by simp) _)).mono ?_
    rintro e w2 ⟨ao, n, cap, g, rfl, hg, hn, b2, hw⟩
    have hs0 : SeenAt ((w.alloc (.cells #[.int .i64 gen, .int .i64 base, .int .i64 0, .slice lo ll lc] 24)).alloc (.cells #[.int .i64 0, .int .i64 0, .int .i64 0, .int .i64 0, .int .i64 0, .int .i64 0, .int .i64 0, .int .i64 0, .int .i64 0, .int .i64 0, .int .i64 0, .int .i64 0, .int .i64 0, .int .i64 0, .int .i64 0, .int .i64 0, .int .i64 0, .int .i64 0, .int .i64 0, .int .i64 0, .int .i64 0, .int .i64 0, .int .i64 0, .int .i64 0, .int .i64 0, .int .i64 0, .int .i64 0, .int .i64 0, .int .i64 0, .int .i64 0, .int .i64 0, .int .i64 0] 66)) (w.heap.size + 1) (fun _ => 0) := ⟨_, heap_second w _ _, rfl, fun t ht => by rw [zero32, Array.getElem?_replicate, if_pos ht]⟩
    have S2 : Kp (SeenAt w2 (w.heap.size + 1) (seenF g 0)) := ⟨hs0.below b2⟩
    have B2 := Kp.mk ((HB0.out.alloc (by simp) (.cells #[.int .i64 0, .int .i64 0, .int .i64 0, .int .i64 0, .int .i64 0, .int .i64 0, .int .i64 0, .int .i64 0, .int .i64 0, .int .i64 0, .int .i64 0, .int .i64 0, .int .i64 0, .int .i64 0, .int .i64 0, .int .i64 0, .int .i64 0, .int .i64 0, .int .i64 0, .int .i64 0, .int .i64 0, .int .i64 0, .int .i64 0, .int .i64 0, .int .i64 0, .int .i64 0, .int .i64 0, .int .i64 0, .int .i64 0, .int .i64 0, .int .i64 0, .int .i64 0] 66)).trans (b2.mono (by simp; omega)))
    have HM2 : Kp (Hd.mayT [] (rowI g n) = M) := ⟨by rw [hg]; exact HM.out⟩
    have HW : Kp (RowIn w w2 (w.heap.size + 1) ao n cap g) := ⟨by
      rcases hw with ⟨rfl, rfl, rfl⟩ | ⟨gb, h1, h2, h3⟩
      · exact .inl HF.out
      · exact .inr ⟨gb, h1, by simp at h2; omega, h3⟩⟩
    clear hs0 hw hg HM HT b2 t1 t2 t3 t4 t5 t7 HF HB0
    have hn' : n ≤ 9223372036854775807 := by omega
    clear hn hl h47
    go_wp2
    go_loopw [43] (fun i wr => ∃ k : Nat, k ≤ n ∧ i = .int .i64 k ∧ Fine g k ∧ SeenAt wr (w.heap.size + 1) (seenF g k) ∧ Below w.heap.size w wr ∧ RowIn w wr (w.heap.size + 1) ao n cap g) (fun i _ => n - (intOf i).toNat)
    case atStart => exact ⟨0, by omega, rfl, ⟨fun t ht => by simp [rowI] at ht, by simp [rowI]⟩, S2.out, B2.out, HW.out⟩
    case round =>
      clear S2 B2 HW
      obtain ⟨k, hk, rfl, hfi, hse, hbl, hro⟩ := hrel
      by_cases hkl : k < n
      · obtain ⟨a, rfl, hc⟩ := hro.cell hbl k hkl
        have hk0 : (0 : Int) ≤ (k : Int) := by omega
        have hk1 : (k : Int) < (n : Int) := by omega
        by_cases hgd : 2 ≤ g k ∧ g k < 32
        · obtain ⟨j, hj⟩ : ∃ j : Nat, g k = (j : Int) := ⟨(g k).toNat, by omega⟩
          have hj2 : 2 ≤ j := by omega
          have hj32 : j < 32 := by omega
          rw [hj] at hc
          have HTp : Kp (∀ W, Calls Tryd.prog 40 #[.int .i64 (j : Int)] W fun e w' => e = .returned (.bool true) ∧ W = w') := ⟨fun W => (tape_any (j : Int) W).mono fun e w' h => by
            rw [decide_eq_true (by omega), decide_eq_true (by omega)] at h
            exact ⟨h.1, h.2.symm⟩⟩
          have hcl := hse.cell j hj32
          have hfr := hse.free j
          have hj0 : (0 : Int) ≤ (j : Int) := by omega
          have hj1 : (j : Int) < 32 := by omega
          by_cases hin : (j : Int) ∈ rowI g k
          · rw [seenF_yes hin] at hcl
            have HNo : Kp (M = false) := ⟨by rw [← HM2.out]; exact not_may hkl (.inr (by rw [hj]; exact hin))⟩
            have HBl := Kp.mk hbl
            clear hfi hse hbl hro hj hin hgd
            go_wp2_with fail
            refine (HTp.out _).mono ?_
            rintro e w' ⟨rfl, rfl⟩
            go_wp2
            go_ret
            exact ⟨ret_bool HNo.out.symm, HBl.out⟩
          · rw [seenF_no hin] at hcl
            have HFi := Kp.mk (hfi.succ hgd (by rw [hj]; exact hin))
            have HSe : Kp (SeenAt (wr.setCell ⟨w.heap.size + 1, j, none⟩ (.int .i64 1)) (w.heap.size + 1) (seenF g (k + 1))) := ⟨by rw [← seenF_succ hj]; exact hse.set j hj32 1⟩
            have HBl := Kp.mk (hbl.setCell (p := ⟨w.heap.size + 1, j, none⟩) (Nat.le_succ _) (.int .i64 1))
            have HRo := Kp.mk (hro.set j (.int .i64 1))
            clear hfi hse hbl hro hj hin hgd
            go_wp2_with fail
            refine (HTp.out _).mono ?_
            rintro e w' ⟨rfl, rfl⟩
            go_wp2
            go_roundw
            case rel => exact ⟨k + 1, by omega, by go_num, HFi.out, HSe.out, HBl.out, HRo.out⟩
            case measure => simp [intOf]; omega
        · have HTp : Kp (∀ W, Calls Tryd.prog 40 #[.int .i64 (g k)] W fun e w' => e = .returned (.bool false) ∧ W = w') := ⟨fun W => (tape_any (g k) W).mono fun e w' h => by
            rw [show (decide (2 ≤ g k) && decide (g k < 32)) = false from by rw [← Bool.decide_and]; exact decide_eq_false hgd] at h
            exact ⟨h.1, h.2.symm⟩⟩
          have HNo : Kp (M = false) := ⟨by rw [← HM2.out]; exact not_may hkl (.inl hgd)⟩
          have HBl := Kp.mk hbl
          clear hfi hse hbl hro hgd
          generalize g k = t at hc HTp
          go_wp2_with fail
          refine (HTp.out _).mono ?_
          rintro e w' ⟨rfl, rfl⟩
          go_wp2
          go_ret
          exact ⟨ret_bool HNo.out.symm, HBl.out⟩
      · obtain rfl : k = n := by omega
        have HYes : Kp (M = true) := ⟨by rw [← HM2.out]; exact hfi.may⟩
        have HBl := Kp.mk hbl
        clear hfi hse hbl hro
        go_wp2
        go_ret
        exact ⟨ret_bool HYes.out.symm, HBl.out⟩
  · have t6 : (snap == 0) = false := by rw [beq_eq_false_iff_ne]; exact h0
    clear c6
    go_enter Tryd.func11, Tryd.ntmps11
    go_wp2_with fail
    refine (HT.out _ (HB0.out.alloc (by simp) _)).mono ?_
    rintro e w2 ⟨ao, n, cap, g, rfl, hg, hn, b2, hw⟩
    have hs0 : SeenAt ((w.alloc (.cells #[.int .i64 gen, .int .i64 base, .int .i64 snap, .slice lo ll lc] 24)).alloc (.cells #[.int .i64 0, .int .i64 0, .int .i64 0, .int .i64 0, .int .i64 0, .int .i64 0, .int .i64 0, .int .i64 0, .int .i64 0, .int .i64 0, .int .i64 0, .int .i64 0, .int .i64 0, .int .i64 0, .int .i64 0, .int .i64 0, .int .i64 0, .int .i64 0, .int .i64 0, .int .i64 0, .int .i64 0, .int .i64 0, .int .i64 0, .int .i64 0, .int .i64 0, .int .i64 0, .int .i64 0, .int .i64 0, .int .i64 0, .int .i64 0, .int .i64 0, .int .i64 0] 66)) (w.heap.size + 1) (fun _ => 0) := ⟨_, heap_second w _ _, rfl, fun t ht => by rw [zero32, Array.getElem?_replicate, if_pos ht]⟩
    have S2 : Kp (SeenAt w2 (w.heap.size + 1) (seenF g 0)) := ⟨hs0.below b2⟩
    have B2 := Kp.mk ((HB0.out.alloc (by simp) (.cells #[.int .i64 0, .int .i64 0, .int .i64 0, .int .i64 0, .int .i64 0, .int .i64 0, .int .i64 0, .int .i64 0, .int .i64 0, .int .i64 0, .int .i64 0, .int .i64 0, .int .i64 0, .int .i64 0, .int .i64 0, .int .i64 0, .int .i64 0, .int .i64 0, .int .i64 0, .int .i64 0, .int .i64 0, .int .i64 0, .int .i64 0, .int .i64 0, .int .i64 0, .int .i64 0, .int .i64 0, .int .i64 0, .int .i64 0, .int .i64 0, .int .i64 0, .int .i64 0] 66)).trans (b2.mono (by simp; omega)))
    have HM2 : Kp (Hd.mayT [] (rowI g n) = M) := ⟨by rw [hg]; exact HM.out⟩
    have HW : Kp (RowIn w w2 (w.heap.size + 1) ao n cap g) := ⟨by
      rcases hw with ⟨rfl, rfl, rfl⟩ | ⟨gb, h1, h2, h3⟩
      · exact .inl HF.out
      · exact .inr ⟨gb, h1, by simp at h2; omega, h3⟩⟩
    clear hs0 hw hg HM HT b2 t1 t2 t3 t4 t5 t6 HF HB0
    have hn' : n ≤ 9223372036854775807 := by omega
    clear hn hl h47
    go_wp2
    go_loopw [43] (fun i wr => ∃ k : Nat, k ≤ n ∧ i = .int .i64 k ∧ Fine g k ∧ SeenAt wr (w.heap.size + 1) (seenF g k) ∧ Below w.heap.size w wr ∧ RowIn w wr (w.heap.size + 1) ao n cap g) (fun i _ => n - (intOf i).toNat)
    case atStart => exact ⟨0, by omega, rfl, ⟨fun t ht => by simp [rowI] at ht, by simp [rowI]⟩, S2.out, B2.out, HW.out⟩
    case round =>
      clear S2 B2 HW
      obtain ⟨k, hk, rfl, hfi, hse, hbl, hro⟩ := hrel
      by_cases hkl : k < n
      · obtain ⟨a, rfl, hc⟩ := hro.cell hbl k hkl
        have hk0 : (0 : Int) ≤ (k : Int) := by omega
        have hk1 : (k : Int) < (n : Int) := by omega
        by_cases hgd : 2 ≤ g k ∧ g k < 32
        · obtain ⟨j, hj⟩ : ∃ j : Nat, g k = (j : Int) := ⟨(g k).toNat, by omega⟩
          have hj2 : 2 ≤ j := by omega
          have hj32 : j < 32 := by omega
          rw [hj] at hc
          have HTp : Kp (∀ W, Calls Tryd.prog 40 #[.int .i64 (j : Int)] W fun e w' => e = .returned (.bool true) ∧ W = w') := ⟨fun W => (tape_any (j : Int) W).mono fun e w' h => by
            rw [decide_eq_true (by omega), decide_eq_true (by omega)] at h
            exact ⟨h.1, h.2.symm⟩⟩
          have hcl := hse.cell j hj32
          have hfr := hse.free j
          have hj0 : (0 : Int) ≤ (j : Int) := by omega
          have hj1 : (j : Int) < 32 := by omega
          by_cases hin : (j : Int) ∈ rowI g k
          · rw [seenF_yes hin] at hcl
            have HNo : Kp (M = false) := ⟨by rw [← HM2.out]; exact not_may hkl (.inr (by rw [hj]; exact hin))⟩
            have HBl := Kp.mk hbl
            clear hfi hse hbl hro hj hin hgd
            go_wp2_with fail
            refine (HTp.out _).mono ?_
            rintro e w' ⟨rfl, rfl⟩
            go_wp2
            go_ret
            exact ⟨ret_bool HNo.out.symm, HBl.out⟩
          · rw [seenF_no hin] at hcl
            have HFi := Kp.mk (hfi.succ hgd (by rw [hj]; exact hin))
            have HSe : Kp (SeenAt (wr.setCell ⟨w.heap.size + 1, j, none⟩ (.int .i64 1)) (w.heap.size + 1) (seenF g (k + 1))) := ⟨by rw [← seenF_succ hj]; exact hse.set j hj32 1⟩
            have HBl := Kp.mk (hbl.setCell (p := ⟨w.heap.size + 1, j, none⟩) (Nat.le_succ _) (.int .i64 1))
            have HRo := Kp.mk (hro.set j (.int .i64 1))
            clear hfi hse hbl hro hj hin hgd
            go_wp2_with fail
            refine (HTp.out _).mono ?_
            rintro e w' ⟨rfl, rfl⟩
            go_wp2
            go_roundw
            case rel => exact ⟨k + 1, by omega, by go_num, HFi.out, HSe.out, HBl.out, HRo.out⟩
            case measure => simp [intOf]; omega
        · have HTp : Kp (∀ W, Calls Tryd.prog 40 #[.int .i64 (g k)] W fun e w' => e = .returned (.bool false) ∧ W = w') := ⟨fun W => (tape_any (g k) W).mono fun e w' h => by
            rw [show (decide (2 ≤ g k) && decide (g k < 32)) = false from by rw [← Bool.decide_and]; exact decide_eq_false hgd] at h
            exact ⟨h.1, h.2.symm⟩⟩
          have HNo : Kp (M = false) := ⟨by rw [← HM2.out]; exact not_may hkl (.inl hgd)⟩
          have HBl := Kp.mk hbl
          clear hfi hse hbl hro hgd
          generalize g k = t at hc HTp
          go_wp2_with fail
          refine (HTp.out _).mono ?_
          rintro e w' ⟨rfl, rfl⟩
          go_wp2
          go_ret
          exact ⟨ret_bool HNo.out.symm, HBl.out⟩
      · obtain rfl : k = n := by omega
        have HYes : Kp (M = true) := ⟨by rw [← HM2.out]; exact hfi.may⟩
        have HBl := Kp.mk hbl
        clear hfi hse hbl hro
        go_wp2
        go_ret
        exact ⟨ret_bool HYes.out.symm, HBl.out⟩
end Go.Proofs.YtjpkncfmionieaaDoor
