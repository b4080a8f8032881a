/- The walk of DiskDoes: it returns true, and leaves what was there. -/
import Derived.Test.YtimfchjjdifbiaaDRefTold
import Derived.Test.YtimfchjjdifbiaaDiskEx
namespace Go.Proofs.Ytimfchjjdifbiaa
open Go.RowKit Go.ChangeShapes Go.WideShapes Go.Deep
set_option linter.unusedVariables false

theorem OkR.of {D : DiskV} (h : Ok D) (q : Tidy D) : OkR (refOf D) := by
  refine ⟨fun k hk => ?_, ?_, ?_, h.cap, h.cap2⟩
  · obtain ⟨z1, z2⟩ := told_size (h.firm k hk)
    have := h.firm k hk
    have := h.most k hk
    show (told (D.tp k)).1.size + (told (D.tp k)).2.size ≤ _
    omega
  · show -1 ≤ (if D.counts = true then (if D.down = true then 0 else D.left) else -1)
    have := h.left
    split
    · split <;> omega
    · omega
  · show (if D.counts = true then (if D.down = true then 0 else D.left) else -1) ≤ _
    have := h.left2
    split
    · split <;> omega
    · omega
theorem tapesB_refl (f : Nat → ByteArray × ByteArray) : tapesB f f = true := (tapesB_iff f f).2 fun _ _ => ⟨rfl, rfl⟩
/-- A row of tapes that came in: nil, or somewhere. -/
theorem tapes_shape {H : Type} {enc : TypeId × Value → H} {w : World} {base : Nat} {spare : Nat → Bool} {held : Bool} {v : Value} {d : DataW H} {ps : List MemPlace}
    (hv : v.cells.toList = [v]) (h : DataW.Trod enc Try.prog w base spare held 22 v d ps) : (v = .slice none 0 0) ∨ ∃ (a : Addr) (len cap : Nat), v = .slice (some a) len cap := by
  obtain ⟨fuel, h⟩ := h
  rw [hv] at h
  rcases open_slice Try.underlying22 h with ⟨h0, _⟩ | ⟨a, len, cap, m, n, D, Pl, hcs, _, hlc, hcm, hm, hx, hi⟩
  · exact .inl (by simpa using h0)
  · exact .inr ⟨a, len, cap, by simpa using hcs⟩
def inL (g : Nat → ByteArray × ByteArray) (n : Nat) : List Value := trow ((List.range n).map g)
theorem inL_len (g : Nat → ByteArray × ByteArray) (n : Nat) : (inL g n).length = n * 2 := by unfold inL; rw [trow_len]; simp
theorem inL_get (g : Nat → ByteArray × ByteArray) (n k : Nat) (hk : k < n) : (inL g n)[k * 2]? = some (.string (g k).1) ∧ (inL g n)[k * 2 + 1]? = some (.string (g k).2) := by
  have := trow_get ((List.range n).map g) k (by simpa using hk)
  simpa [inL] using this
theorem TapesIn.src {w : World} {bo : Option Addr} {lb cb : Nat} {g : Nat → ByteArray × ByteArray} (h : TapesIn w bo lb g) (hs : (bo = none ∧ lb = 0 ∧ cb = 0) ∨ ∃ a, bo = some a) (W : World) (hW : Below w.heap.size w W) : Src 2 W (.slice bo lb cb) lb (inL g lb) := by
  refine ⟨inL_len g lb, ?_⟩
  rcases hs with ⟨rfl, rfl, rfl⟩ | ⟨a, rfl⟩
  · exact .inl ⟨rfl, rfl⟩
  · refine .inr ⟨a, cb, rfl, fun j x hx => ?_⟩
    have hj : j < lb * 2 := by
      have := (List.getElem?_eq_some_iff.1 hx).1
      rwa [inL_len] at this
    obtain ⟨a', ha', _, _, h1, h2⟩ := h W hW (j / 2) (by omega)
    obtain rfl := Option.some.inj ha'
    obtain ⟨g1, g2⟩ := inL_get g lb (j / 2) (by omega)
    by_cases he : j % 2 = 0
    · rw [show j / 2 * 2 = j from by omega] at h1 g1
      rw [g1] at hx
      cases hx
      exact h1
    · have e2 : (⟨(a.add (j / 2 * 2)).block, (a.add (j / 2 * 2)).off + (0 + 1), none⟩ : Addr) = a.add (j / 2 * 2 + (0 + 1)) := by rw [← Addr.add_add, Addr.add_succ']
      rw [Nat.zero_add] at e2
      rw [e2] at h2
      rw [show j / 2 * 2 + 1 = j from by omega] at h2 g2
      rw [g2] at hx
      cases hx
      exact h2
theorem RK.tapesIn {w : World} {ao : Option Addr} {lb cap : Nat} {g : Nat → ByteArray × ByteArray} (h : RK 2 w (.slice ao lb cap) lb (inL g lb)) (hb : ∀ i, i < lb → (g i).1.size ≤ 1099511627776 ∧ (g i).2.size ≤ 1099511627776) : TapesIn w ao lb g := fun W hW i hi => by
  obtain ⟨q, cp, hv, _, _, _, _⟩ := h.at_ (by omega)
  simp only [Value.slice.injEq] at hv
  obtain ⟨rfl, _, rfl⟩ := hv
  have h' := h.below hW
  obtain ⟨g1, g2⟩ := inL_get g lb i hi
  refine ⟨_, rfl, (hb i hi).1, (hb i hi).2, ?_, ?_⟩
  · rw [Addr.add_lit, Nat.zero_add]; exact h'.cell _ _ g1
  · rw [Addr.add_lit]; simp only [Nat.zero_add]; exact h'.cell _ _ g2
set_option maxRecDepth 100000 in
theorem diskDoes_big0 (w : World) (c : Int) (bo : Option Addr) (lb cb : Nat) (g : Nat → ByteArray × ByteArray) (ao : Option Addr) (len cap : Nat) (f : Nat → ActV) (hlb : lb ≤ maxLen) (hl : len ≤ maxLen) (hg : TapesAt w bo lb g) (hf : ActsIn w ao len f) (hc0 : ¬ costA f len + costT g lb < 20000) :
    Calls Try.prog 3 #[.int .i64 c, .slice bo lb cb, .slice ao len cap] w fun e w' => e = .returned (.bool true) ∧ Below w.heap.size w w' := by
  have HL0 := Kp.mk (long_any w ao len cap f bo lb cb g hl hf hlb hg)
  rw [show decide (20000 ≤ costA f len + costT g lb) = true from by rw [decide_eq_true_eq]; omega] at HL0
  unfold maxLen at *
  clear hf hg
  go_enter Try.func3, Try.ntmps3
  go_wp2_with fail
  refine (HL0.out).mono ?_
  rintro e w' ⟨rfl, md0, rfl⟩
  go_wp2_with fail
  refine (awake_any _).mono ?_
  rintro e w1 ⟨rfl, hb1⟩
  have HB1 : Kp (Below w.heap.size w w1) := ⟨⟨hb1.os, hb1.tape, hb1.output, hb1.size, hb1.block⟩⟩
  clear hb1
  go_wp2
  go_ret
  exact ⟨by trivial, HB1.out⟩
set_option maxRecDepth 100000 in
theorem diskDoes_big1 (w : World) (c : Int) (bo : Option Addr) (lb cb : Nat) (g : Nat → ByteArray × ByteArray) (ao : Option Addr) (len cap : Nat) (f : Nat → ActV) (hlb : lb ≤ maxLen) (hl : len ≤ maxLen) (hg : TapesAt w bo lb g) (hf : ActsIn w ao len f) (hc0 : costA f len + costT g lb < 20000) (hc1 : len > 200) :
    Calls Try.prog 3 #[.int .i64 c, .slice bo lb cb, .slice ao len cap] w fun e w' => e = .returned (.bool true) ∧ Below w.heap.size w w' := by
  have HL0 := Kp.mk (long_any w ao len cap f bo lb cb g hl hf hlb hg)
  rw [show decide (20000 ≤ costA f len + costT g lb) = false from by rw [decide_eq_false_iff_not]; omega] at HL0
  have t1 : decide ((200 : Int) < (len : Int)) = true := by rw [decide_eq_true_eq]; omega
  have t1' : decide (200 < len) = true := by rw [decide_eq_true_eq]; omega
  unfold maxLen at *
  clear hf hg
  go_enter Try.func3, Try.ntmps3
  go_wp2_with fail
  refine (HL0.out).mono ?_
  rintro e w' ⟨rfl, md0, rfl⟩
  go_wp2_with fail
  refine (awake_any _).mono ?_
  rintro e w1 ⟨rfl, hb1⟩
  have HB1 : Kp (Below w.heap.size w w1) := ⟨⟨hb1.os, hb1.tape, hb1.output, hb1.size, hb1.block⟩⟩
  clear hb1
  go_wp2
  go_ret
  exact ⟨by trivial, HB1.out⟩
set_option maxRecDepth 100000 in
set_option maxHeartbeats 8000000 in
theorem diskDoes_core (w : World) (c : Int) (bo : Option Addr) (lb cb : Nat) (g : Nat → ByteArray × ByteArray) (ao : Option Addr) (len cap : Nat) (f : Nat → ActV) (hs : (bo = none ∧ lb = 0 ∧ cb = 0) ∨ ∃ a, bo = some a) (hlb : lb ≤ maxLen) (hl : len ≤ 200) (hg : TapesAt w bo lb g) (hf : ActsIn w ao len f)
    (hc : costA f len + costT g lb < 20000) (hc2 : c ≤ 9223372036854775807) :
    Calls Try.prog 3 #[.int .i64 c, .slice bo lb cb, .slice ao len cap] w fun e w' => e = .returned (.bool true) ∧ Below w.heap.size w w' := by
  have HL0 := Kp.mk (long_any w ao len cap f bo lb cb g (by unfold maxLen; omega) hf hlb hg)
  rw [show decide (20000 ≤ costA f len + costT g lb) = false from by rw [decide_eq_false_iff_not]; omega] at HL0
  have t1 : decide ((200 : Int) < (len : Int)) = false := by rw [decide_eq_false_iff_not]; omega
  have t1' : decide (200 < len) = false := by rw [decide_eq_false_iff_not]; omega
  have HF := Kp.mk hf
  have HCA : Kp (costA f len < 20000) := ⟨by omega⟩
  have htin := hg.small (by omega)
  have HTI := Kp.mk htin
  have hlb2 : lb ≤ 1000 := by
    have key : ∀ k, 20 * k ≤ costT g k := fun k => by
      induction k with
      | zero => exact Nat.zero_le _
      | succ k ih => rw [costT]; omega
    have := key lb
    omega
  have HSm : Kp (∀ i, i < lb → (g i).1.size ≤ 1099511627776 ∧ (g i).2.size ≤ 1099511627776) := ⟨fun i hi => by
    obtain ⟨s1, s2⟩ := small_tape g lb i (by omega) hi
    omega⟩
  have HSrc := Kp.mk (TapesIn.src htin hs)
  clear hg hf hc hlb hs htin
  obtain ⟨i0, hi0, hi1, hi2, hi3⟩ := info_parts infoRTape
  have HI := Kp.mk (And.intro hi0 (And.intro hi1 (And.intro hi2 hi3)))
  clear hi0 hi1 hi2 hi3
  have HLB := Kp.mk hlb2
  have HZ : Kp (∀ W o, RK 2 (World.alloc W o) (.slice (some ⟨W.heap.size, 0, none⟩) 0 0) 0 []) := ⟨fun W o => RK.empty 2 _ _⟩
  have HBA : Kp (∀ md o, Below w.heap.size w ((w.drewN md).alloc o)) := ⟨fun md o => (Below.drewN (Below.refl _ _) md).alloc (Nat.le_refl _) _⟩
  go_enter Try.func3, Try.ntmps3
  go_wp2_with fail
  refine HL0.out.mono ?_
  rintro e w' ⟨rfl, md, rfl⟩
  go_wp2_with ((refine wpList_append_src rfl (.tmp 29) (.tmp 30) 22 (by rfl) (HZ.out _ _) (HSrc.out _ (HBA.out _ _)) 50 i0 _ 32 Try.underlying22 HI.out.1 HI.out.2.1 HI.out.2.2.1 HI.out.2.2.2 rfl (by decide) (by rfl) (by rfl) (trow_one _) (by have := HLB.out; unfold maxLen; omega) (by have := HLB.out; omega) lb (inL g lb) (Nat.zero_add _) (List.nil_append _) ?_; intro a2 c2 w2 r1 g1 f1; have N2 := Kp.mk (New.of (w := w) (B := w.heap.size) (HBA.out _ _) (HBA.out _ _).size g1 f1 (blk_none _ _)); have R1 := Kp.mk r1; clear g1 f1 r1))
  have HB2 : Kp (Below w.heap.size w w2) := ⟨N2.out.below⟩
  clear HL0 HSrc HZ HBA HI t1 t1'
  by_cases harg : c < 0 ∨ 32 < lb
  · refine (Load_arg c a2 lb c2 _ (by unfold maxLen; omega) harg).mono ?_
    rintro e w3 ⟨rfl, rfl⟩
    go_wp2_with fail
    refine (rLoad_arg c bo lb cb _ (by unfold maxLen; omega) harg).mono ?_
    rintro e w4 ⟨rfl, rfl⟩
    go_wp2_with fail
    refine (awake_any _).mono ?_
    rintro e w5 ⟨rfl, hb5⟩
    have B5 := Kp.mk (HB2.out.trans (hb5.mono HB2.out.size))
    clear hb5
    go_wp2
    go_ret
    exact ⟨by trivial, B5.out⟩
  · have hc0 : 0 ≤ c := by omega
    have hl32 : lb ≤ 32 := by omega
    refine (Load_go c a2 lb c2 g _ hl32 hc0 hc2 (RK.tapesIn R1.out HSm.out)).mono ?_
    rintro e w3 ⟨hv3, hb3⟩
    have B3 := Kp.mk (HB2.out.trans (hb3.mono HB2.out.size))
    have HT3 : Kp (TapesIn w3 bo lb g) := ⟨fun W hW => HTI.out W (B3.out.trans (hW.mono B3.out.size))⟩
    have HZ3 : Kp (w2.heap.size ≤ w3.heap.size) := ⟨hb3.size⟩
    clear hb3
    rcases hv3 with ⟨hbig, rfl⟩ | ⟨hnb, hfull, rfl⟩ | ⟨hnb, hroom, rfl, hd3⟩
    · go_wp2_with fail
      refine (rLoad_go c bo lb cb g _ hl32 hc0 hc2 HT3.out).mono ?_
      rintro e w4 ⟨hv4, hb4⟩
      have B4 := Kp.mk (B3.out.trans (hb4.mono B3.out.size))
      clear hb4
      rcases hv4 with ⟨_, rfl⟩ | ⟨hnb, _, _⟩ | ⟨hnb, _⟩
      · go_wp2_with fail
        refine (awake_any _).mono ?_
        rintro e w5 ⟨rfl, hb5⟩
        have B5 := Kp.mk (B4.out.trans (hb5.mono B4.out.size))
        clear hb5
        go_wp2
        go_ret
        exact ⟨by trivial, B5.out⟩
      · exact absurd hbig hnb
      · exact absurd hbig hnb
    · go_wp2_with fail
      refine (rLoad_go c bo lb cb g _ hl32 hc0 hc2 HT3.out).mono ?_
      rintro e w4 ⟨hv4, hb4⟩
      have B4 := Kp.mk (B3.out.trans (hb4.mono B3.out.size))
      clear hb4
      rcases hv4 with ⟨hbig, _⟩ | ⟨_, _, rfl⟩ | ⟨_, hr, _⟩
      · exact absurd hbig hnb
      · go_wp2_with fail
        refine (awake_any _).mono ?_
        rintro e w5 ⟨rfl, hb5⟩
        have B5 := Kp.mk (B4.out.trans (hb5.mono B4.out.size))
        clear hb5
        go_wp2
        go_ret
        exact ⟨by trivial, B5.out⟩
      · omega
    · go_wp2_with fail
      refine (rLoad_go c bo lb cb g _ hl32 hc0 hc2 HT3.out).mono ?_
      rintro e w4 ⟨hv4, hb4⟩
      have B4 := Kp.mk (B3.out.trans (hb4.mono B3.out.size))
      have D4 := Kp.mk (hd3.below hb4)
      have G3 := Kp.mk hd3.lt
      clear hb4 hd3
      rcases hv4 with ⟨hbig, _⟩ | ⟨_, hf, _⟩ | ⟨_, _, gx, qx, rfl, hx4, hgx, hqx⟩
      · exact absurd hbig hnb
      · omega
      · have X4 := Kp.mk hx4
        have NE : Kp (w2.heap.size ≠ gx ∧ w2.heap.size ≠ qx ∧ w.heap.size ≤ w2.heap.size ∧ w.heap.size ≤ gx ∧ w.heap.size ≤ qx) := ⟨by have := G3.out; have := HB2.out.size; exact ⟨by omega, by omega, by omega, by omega, by omega⟩⟩
        have O4 := Kp.mk (load_ok g c lb hnb hc0 hc2 hroom)
        have Q4 : Kp (Tidy (loadD g c lb)) := ⟨⟨fun h => (by cases h), fun _ => rfl⟩⟩
        generalize loadD g c lb = D0 at D4 X4 O4 Q4
        generalize w2.heap.size = gd at D4 NE
        clear hx4 hgx hqx hnb hroom G3 HT3 HZ3 B3 HB2 R1 N2 HSm harg
        go_wp2
        go_loopw [11] (fun k wr => ∃ (j : Nat) (D : DiskV), k = .int .i64 j ∧ j ≤ len ∧ DiskAt wr gd D ∧ RDAt wr gx qx 32 (refOf D) ∧ Ok D ∧ Tidy D ∧ Below w.heap.size w wr) (fun k _ => len - (intOf k).toNat)
        case atStart => exact ⟨0, D0, rfl, by omega, D4.out, X4.out, O4.out, Q4.out, B4.out⟩
        case round =>
          clear D4 X4 O4 Q4 B4
          obtain ⟨j, D, rfl, hj, hd, hx, ho, hq, hb⟩ := hrel
          have D5 := Kp.mk hd
          have X5 := Kp.mk hx
          have O5 := Kp.mk ho
          have Q5 := Kp.mk hq
          have B5 := Kp.mk hb
          clear hd hx ho hq hb
          by_cases hjl : j < len
          · obtain ⟨a, rfl, hok, hat⟩ := HF.out wr B5.out j hjl
            have HAT : Kp (∀ W, Below w.heap.size w W → ActAt W (a.add (j * 5)) (f j)) := ⟨fun W hW => by
              obtain ⟨a', ha', _, h⟩ := HF.out W hW j hjl
              obtain rfl := Option.some.inj ha'
              exact h⟩
            have hsz := (small_act f len j HCA.out hjl).1
            have HKe : Kp (∀ W, Below w.heap.size w W → KeepAt W (f j).ko (f j).kl (f j).kf) := ⟨fun W hW => (HAT.out W hW).2.2.2.2.2⟩
            have hlike := do_like O5.out (f j)
            have HDo := Kp.mk (fun (W : World) (h : DiskAt W gd D) (hk : ∀ V, Chg W V gd → KeepAt V (f j).ko (f j).kl (f j).kf) => do_any gd D (f j) W h O5.out hok hk)
            have HTo := Kp.mk (fun (W : World) (h : RDAt W gx qx 32 (refOf D)) (hk : ∀ V, Chg2 W V gx qx → KeepAt V (f j).ko (f j).kl (f j).kf) => rtold_any gx qx 32 (refOf D) (f j) W h (OkR.of O5.out Q5.out) hok (by omega) hk)
            rw [← hlike] at HTo
            have O6 := Kp.mk (O5.out.act (f j) hok)
            have Q6 := Kp.mk (Q5.out.act O5.out (f j))
            clear hlike hok hat hsz
            generalize doV D (f j) = M at HDo HTo O6 Q6
            obtain ⟨⟨ss, se⟩, E⟩ := M
            simp only [] at HDo HTo O6 Q6
            generalize f j = q at HAT HKe HDo HTo
            obtain ⟨qw, qt, qn, qs, ko, kl, kc, kf⟩ := q
            simp only [ActV.v] at HDo HTo HKe
            have i0 : (0 : Int) ≤ (j : Int) := by omega
            have i1 : (j : Int) < (len : Int) := by omega
            go_wp2_with fail
            refine (Copy_any gd D _ D5.out).mono ?_
            rintro e w6 ⟨rfl, c6, b6⟩
            have C6 := Kp.mk c6
            have D6 := Kp.mk (D5.out.below b6)
            have X6 := Kp.mk (X5.out.below b6)
            have B6 := Kp.mk (B5.out.trans (b6.mono B5.out.size))
            have L5 : Kp (gd < wr.heap.size ∧ gx < wr.heap.size ∧ qx < wr.heap.size) := ⟨D5.out.lt, X5.out.lt, X5.out.ltq⟩
            generalize wr.heap.size = gc at C6 L5 ⊢
            clear c6 b6 D5 X5 B5
            go_wp2_with fail
            refine (rCopy_any gx qx 32 (refOf D) _ X6.out).mono ?_
            rintro e w7 ⟨gy, qy, cy, rfl, y7, b7, hgy, hqy⟩
            have Y7 := Kp.mk y7
            have C7 := Kp.mk (C6.out.below b7)
            have D7 := Kp.mk (D6.out.below b7)
            have X7 := Kp.mk (X6.out.below b7)
            have B7 := Kp.mk (B6.out.trans (b7.mono B6.out.size))
            have L6 : Kp (gc ≠ gd ∧ gc ≠ gx ∧ gc ≠ qx ∧ gy ≠ gd ∧ gy ≠ gx ∧ gy ≠ qx ∧ qy ≠ gd ∧ qy ≠ gx ∧ qy ≠ qx) := ⟨by
              have := L5.out
              have := C6.out.lt
              have := D6.out.lt
              have := X6.out.lt
              have := X6.out.ltq
              omega⟩
            clear y7 b7 hgy hqy C6 D6 X6 B6 L5
            obtain ⟨c0, c1, c2, c3, c4, _⟩ := HAT.out _ B7.out
            have c0 : w7.cell? (a.add (j * 5)) = some (.int .u8 qw) := c0
            have c1 : w7.cell? ⟨(a.add (j * 5)).block, (a.add (j * 5)).off + 1, none⟩ = some (.int .i64 qt) := c1
            have c2 : w7.cell? ⟨(a.add (j * 5)).block, (a.add (j * 5)).off + 2, none⟩ = some (.int .i64 qn) := c2
            have c3 : w7.cell? ⟨(a.add (j * 5)).block, (a.add (j * 5)).off + 3, none⟩ = some (.string qs) := c3
            have c4 : w7.cell? ⟨(a.add (j * 5)).block, (a.add (j * 5)).off + 4, none⟩ = some (.slice ko kl kc) := c4
            go_wp2_with fail
            refine (HDo.out _ D7.out (fun V hV => HKe.out V (hV.below B7.out B7.out.size (by have := NE.out; omega)))).mono ?_
            rintro e w8 ⟨rfl, d8, h8⟩
            have D8 := Kp.mk d8
            have C8 := Kp.mk (h8.other C7.out L6.out.1)
            have X8 := Kp.mk (h8.ref X7.out (fun e => NE.out.1 e.symm) (fun e => NE.out.2.1 e.symm))
            have Y8 := Kp.mk (h8.ref Y7.out L6.out.2.2.2.1 L6.out.2.2.2.2.2.2.1)
            have B8 := Kp.mk (h8.below B7.out B7.out.size (by have := NE.out; omega))
            clear d8 h8 c0 c1 c2 c3 c4 D7 C7 X7 Y7 B7 HDo
            obtain ⟨c0, c1, c2, c3, c4, _⟩ := HAT.out _ B8.out
            have c0 : w8.cell? (a.add (j * 5)) = some (.int .u8 qw) := c0
            have c1 : w8.cell? ⟨(a.add (j * 5)).block, (a.add (j * 5)).off + 1, none⟩ = some (.int .i64 qt) := c1
            have c2 : w8.cell? ⟨(a.add (j * 5)).block, (a.add (j * 5)).off + 2, none⟩ = some (.int .i64 qn) := c2
            have c3 : w8.cell? ⟨(a.add (j * 5)).block, (a.add (j * 5)).off + 3, none⟩ = some (.string qs) := c3
            have c4 : w8.cell? ⟨(a.add (j * 5)).block, (a.add (j * 5)).off + 4, none⟩ = some (.slice ko kl kc) := c4
            go_wp2_with fail
            refine (HTo.out _ X8.out (fun V hV => HKe.out V (hV.below B8.out B8.out.size (by have := NE.out; omega) (by have := NE.out; omega)))).mono ?_
            rintro e w9 ⟨rfl, x9, h9⟩
            have X9 := Kp.mk x9
            have C9 := Kp.mk (h9.disk C8.out L6.out.2.1 L6.out.2.2.1)
            have D9 := Kp.mk (h9.disk D8.out NE.out.1 NE.out.2.1)
            have Y9 := Kp.mk (h9.ref Y8.out L6.out.2.2.2.2.1 L6.out.2.2.2.2.2.1 L6.out.2.2.2.2.2.2.2.1 L6.out.2.2.2.2.2.2.2.2)
            have B9 := Kp.mk (h9.below B8.out B8.out.size (by have := NE.out; omega) (by have := NE.out; omega))
            clear x9 h9 c0 c1 c2 c3 c4 D8 C8 X8 Y8 B8 HTo HKe HAT L6
            go_wp2_with fail
            have HU0 : usedR (refOf E).t 32 = used E.tp 32 := used_told O6.out.firm 32 (Nat.le_refl _)
            have HDX : Kp (∀ W, Below w9.heap.size w9 W → W.cell? ⟨gx, 2, none⟩ = some (.bool E.down) ∧ W.cell? ⟨gx, 1, none⟩ = some (.int .i64 E.cap) ∧ W.cell? ⟨gx, 0, none⟩ = some (.slice (some ⟨qx, 0, none⟩) 32 32) ∧ W.cell? ⟨gy, 0, none⟩ = some (.slice (some ⟨qy, 0, none⟩) 32 cy)) := ⟨fun W hW => ⟨(X9.out.below hW).c2, (X9.out.below hW).c1, (X9.out.below hW).c0, (Y9.out.below hW).c0⟩⟩
            have HUp := Kp.mk (fun (W : World) (hW : Below w9.heap.size w9 W) => (Up_any gd E W (D9.out.below hW)).mono fun e w' (h : _ ∧ W = w') => And.intro h.1 (show Below w9.heap.size w9 w' from h.2 ▸ hW))
            have HUs := Kp.mk (fun (W : World) (hW : Below w9.heap.size w9 W) => (Used_any gd E W (D9.out.below hW) O6.out.most).mono fun e w' (h : _ ∧ _) => And.intro h.1 (hW.trans (h.2.mono hW.size)))
            have HrU := Kp.mk (fun (W : World) (hW : Below w9.heap.size w9 W) => rUsed_any gx qx 32 (refOf E) W (X9.out.below hW) (OkR.of O6.out Q6.out).most)
            rw [HU0] at HrU
            replace HrU := Kp.mk (fun (W : World) (hW : Below w9.heap.size w9 W) => (HrU.out W hW).mono fun e w' (h : _ ∧ ∃ n, w' = W.drewN n) => And.intro h.1 (show Below w9.heap.size w9 w' from by obtain ⟨_, n, rfl⟩ := h; exact Below.drewN hW n))
            have HCa := Kp.mk (fun (W : World) (hW : Below w9.heap.size w9 W) => (Capacity_any gd E W (D9.out.below hW)).mono fun e w' (h : _ ∧ W = w') => And.intro h.1 (show Below w9.heap.size w9 w' from h.2 ▸ hW))
            have HT1 := Kp.mk (fun (W : World) (hW : Below w9.heap.size w9 W) => Tapes_any gd E W (D9.out.below hW) O6.out)
            have HT2 := Kp.mk (fun (W : World) (hW : Below w9.heap.size w9 W) => Tapes_any gc D W (C9.out.below hW) O5.out)
            have HS1 := Kp.mk (fun (W : World) (ao : Option Addr) (ca : Nat) (hW : Below w9.heap.size w9 W) (hr : RK 2 W (.slice ao 32 ca) 32 (trow (tapesL E 32))) (hn : ∀ k, blk (.slice ao 32 ca) = some k → w9.heap.size ≤ k) => (tapes_any (fun t => told (E.tp t)) (refOf E).t w9.heap.size ao (some ⟨qx, 0, none⟩) ca 32 W hr (X9.out.below hW).2.1 hn hW.size).mono fun e w' (h : _ ∧ Below w9.heap.size W w') => And.intro (h.1.trans (by rw [show (refOf E).t = fun t => told (E.tp t) from rfl, tapesB_refl])) (hW.trans h.2))
            have HS2 := Kp.mk (fun (W : World) (ao : Option Addr) (ca : Nat) (hW : Below w9.heap.size w9 W) (hr : RK 2 W (.slice ao 32 ca) 32 (trow (tapesL D 32))) (hn : ∀ k, blk (.slice ao 32 ca) = some k → w9.heap.size ≤ k) => (tapes_any (fun t => told (D.tp t)) (refOf D).t w9.heap.size ao (some ⟨qy, 0, none⟩) ca cy W hr (Y9.out.below hW).2.1 hn hW.size).mono fun e w' (h : _ ∧ Below w9.heap.size W w') => And.intro (h.1.trans (by rw [show (refOf D).t = fun t => told (D.tp t) from rfl, tapesB_refl])) (hW.trans h.2))
            generalize trow (tapesL E 32) = LE at HT1 HS1
            generalize trow (tapesL D 32) = LD at HT2 HS2
            have BX := Kp.mk (Below.refl w9.heap.size w9)
            obtain ⟨s1, s2, s3, s4⟩ := HDX.out _ BX.out
            go_region_held3 (fun w' => w'.cell? ⟨gx, 2, none⟩ = some (.bool E.down) ∧ w'.cell? ⟨gx, 1, none⟩ = some (.int .i64 E.cap) ∧ w'.cell? ⟨gx, 0, none⟩ = some (.slice (some ⟨qx, 0, none⟩) 32 32) ∧ w'.cell? ⟨gy, 0, none⟩ = some (.slice (some ⟨qy, 0, none⟩) 32 cy)) (go_keep)
              (first
                | (go_at_call 12; refine (HUp.out _ (by first | exact BX.out | exact BX.out.drew)).mono ?_; rintro e wu ⟨rfl, hbu⟩; have BX := Kp.mk hbu; obtain ⟨s1, s2, s3, s4⟩ := HDX.out _ hbu; clear hbu)
                | (go_at_call 13; refine (HUs.out _ (by first | exact BX.out | exact BX.out.drew)).mono ?_; rintro e wu ⟨rfl, hbu⟩; have BX := Kp.mk hbu; obtain ⟨s1, s2, s3, s4⟩ := HDX.out _ hbu; clear hbu)
                | (go_at_call 14; refine (HrU.out _ (by first | exact BX.out | exact BX.out.drew)).mono ?_; rintro e wu ⟨rfl, hbu⟩; have BX := Kp.mk hbu; obtain ⟨s1, s2, s3, s4⟩ := HDX.out _ hbu; clear hbu)
                | (go_at_call 15; refine (HCa.out _ (by first | exact BX.out | exact BX.out.drew)).mono ?_; rintro e wu ⟨rfl, hbu⟩; have BX := Kp.mk hbu; obtain ⟨s1, s2, s3, s4⟩ := HDX.out _ hbu; clear hbu)
                | (go_at_call_of 17 (Value.pointer (some ⟨gd, 0, none⟩)); have hbz := (by first | exact BX.out | exact BX.out.drew); refine (HT1.out _ hbz).mono ?_; rintro e wu ⟨lo, lc, rfl, hr, hn⟩; have BX := Kp.mk (hbz.trans (hn.below.mono hbz.size)); obtain ⟨s1, s2, s3, s4⟩ := HDX.out _ BX.out; have RX1 := Kp.mk (And.intro hr (fun k hk => Nat.le_trans hbz.size (hn.new k hk))); clear hr hn hbz)
                | (go_at_call_of 17 (Value.pointer (some ⟨gc, 0, none⟩)); have hbz := (by first | exact BX.out | exact BX.out.drew); refine (HT2.out _ hbz).mono ?_; rintro e wu ⟨lo, lc, rfl, hr, hn⟩; have BX := Kp.mk (hbz.trans (hn.below.mono hbz.size)); obtain ⟨s1, s2, s3, s4⟩ := HDX.out _ BX.out; have RX2 := Kp.mk (And.intro hr (fun k hk => Nat.le_trans hbz.size (hn.new k hk))); clear hr hn hbz)
                | (go_at_call 16; refine (HS1.out _ _ _ (by first | exact BX.out | exact BX.out.drew) RX1.out.1 RX1.out.2).mono ?_; rintro e wu ⟨rfl, hbu⟩; have BX := Kp.mk hbu; obtain ⟨s1, s2, s3, s4⟩ := HDX.out _ hbu; clear hbu RX1)
                | (go_at_call 16; refine (HS2.out _ _ _ (by first | exact BX.out | exact BX.out.drew) RX2.out.1 RX2.out.2).mono ?_; rintro e wu ⟨rfl, hbu⟩; have BX := Kp.mk hbu; obtain ⟨s1, s2, s3, s4⟩ := HDX.out _ hbu; clear hbu RX2))
            have HSm := Kp.mk (fun (W : World) (hW : Below w9.heap.size w9 W) => (Same_any gc gd D E W (C9.out.below hW) (D9.out.below hW)).mono fun e w' (h : _ ∧ _) => And.intro h.1 (hW.trans (h.2.mono hW.size)))
            have HrS := Kp.mk (fun (W : World) (hW : Below w9.heap.size w9 W) => rSame_any gy qy cy gx qx 32 (refOf D) (refOf E) W (Y9.out.below hW) (X9.out.below hW))
            rw [← same_like O5.out O6.out Q5.out Q6.out] at HrS
            replace HrS := Kp.mk (fun (W : World) (hW : Below w9.heap.size w9 W) => (HrS.out W hW).mono fun e w' (h : _ ∧ ∃ n, w' = W.drewN n) => And.intro h.1 (show Below w9.heap.size w9 w' from by obtain ⟨_, n, rfl⟩ := h; exact Below.drewN hW n))
            generalize diskB D E = SB at HSm HrS
            have HCo := Kp.mk (fun (W : World) (hW : Below w9.heap.size w9 W) => (Copy_any gd E W (D9.out.below hW)).mono fun e w' (h : _ ∧ _ ∧ _) => And.intro h.1 (And.intro h.2.1 (hW.trans (h.2.2.mono hW.size))))
            have HSs := Kp.mk (fun (W : World) (k : Nat) (hW : Below w9.heap.size w9 W) (hk : DiskAt W k E) => (Same_any gd k E E W (D9.out.below hW) hk).mono fun e w' (h : _ ∧ _) => And.intro h.1 (hW.trans (h.2.mono hW.size)))
            rw [diskB_refl] at HSs
            have HFin : Kp (∀ W, Below w9.heap.size w9 W → DiskAt W gd E ∧ RDAt W gx qx 32 (refOf E) ∧ Below w.heap.size w W) := ⟨fun W hW => ⟨D9.out.below hW, X9.out.below hW, B9.out.trans (hW.mono B9.out.size)⟩⟩
            clear HUp HUs HrU HCa HT1 HT2 HS1 HS2 HDX s1 s2 s3 s4 C9 Y9 X9 D9 B9
            have BZ := Kp.mk (And.intro BX.out BX.out.drew)
            go_wp2_with fail
            refine (HSm.out _ (by first | exact BZ.out.1 | exact BZ.out.2)).mono ?_
            rintro e w10 ⟨rfl, b10⟩
            have B10 := Kp.mk b10
            clear b10 BX BZ
            go_wp2_with fail
            refine (HrS.out _ B10.out).mono ?_
            rintro e w11 ⟨rfl, b11⟩
            have B11 := Kp.mk b11
            clear b11 B10
            cases SB
            all_goals
              go_wp2_with fail
              refine (HCo.out _ B11.out).mono ?_
              rintro e w12 ⟨rfl, c12, b12⟩
              have B12 := Kp.mk b12
              have C12 := Kp.mk c12
              clear b12 c12
              go_wp2_with fail
              refine (HSs.out _ _ B12.out C12.out).mono ?_
              rintro e w13 ⟨rfl, b13⟩
              have B13 := Kp.mk b13
              clear b13
              go_wp2
              go_roundw
              · exact ⟨j + 1, E, by go_num, by omega, (HFin.out _ B13.out).1, (HFin.out _ B13.out).2.1, O6.out, Q6.out, (HFin.out _ B13.out).2.2⟩
              · simp [intOf]; omega
          · obtain rfl : j = len := by omega
            clear D5 X5 O5 Q5
            go_wp2_with fail
            refine (awake_any _).mono ?_
            rintro e w5 ⟨rfl, hb5⟩
            have B6 := Kp.mk (B5.out.trans (hb5.mono B5.out.size))
            clear hb5
            go_wp2
            go_ret
            exact ⟨by trivial, B6.out⟩
theorem walkDiskDoes {H : Type} {enc : TypeId × Value → H} {X : Prop} {b0 b1 : Nat} {d e : DataW H} {ps qs : List MemPlace} (w : World) (c : Int) (hc : (Lit.int .i64 c).wf = true) (u : Value) (hu : Value.okWide Try.prog w .any b0 22 u) (hU : DataW.Trod enc Try.prog w 0 (fun _ => true) true 22 u d ps)
    (v : Value) (hv : Value.okWide Try.prog w .any b1 23 v) (hV : DataW.Trod enc Try.prog w 0 (fun _ => true) true 23 v e qs) (_hweigh : X) :
    Calls Try.prog 3 #[.int .i64 c, u, v] w fun e w' => e = .returned (.bool true) ∧ Below w.heap.size w w' := by
  obtain ⟨_, _, _, hu'⟩ := Go.WideShapes.okWide_slice Try.underlying22 hu
  obtain ⟨_, _, _, hv'⟩ := Go.WideShapes.okWide_slice Try.underlying23 hv
  have hsh := tapes_shape (by rw [hu']; rfl) hU
  obtain ⟨bo, lb, cb, g, rfl, hlb, hg⟩ := tapes_open (by rw [hu']; rfl) hU
  obtain ⟨ao, len, cap, f, rfl, hl, hf⟩ := acts_open (by rw [hv']; rfl) hV
  have hs : (bo = none ∧ lb = 0 ∧ cb = 0) ∨ ∃ a, bo = some a := by
    rcases hsh with h | ⟨a, _, _, h⟩
    · simp only [Value.slice.injEq] at h
      exact .inl h
    · simp only [Value.slice.injEq] at h
      exact .inr ⟨a, h.1⟩
  by_cases h0 : costA f len + costT g lb < 20000
  · by_cases h1 : len ≤ 200
    · exact diskDoes_core w c bo lb cb g ao len cap f hs hlb h1 hg hf h0 (wf_i64 hc).2
    · exact diskDoes_big1 w c bo lb cb g ao len cap f hlb hl hg hf h0 (by omega)
  · exact diskDoes_big0 w c bo lb cb g ao len cap f hlb hl hg hf h0
end Go.Proofs.Ytimfchjjdifbiaa
