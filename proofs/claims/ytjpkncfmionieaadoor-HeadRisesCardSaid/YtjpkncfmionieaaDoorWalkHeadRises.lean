/- The walk of HeadRises: it returns true, and leaves what was there. -/
import Derived.Test.YtjpkncfmionieaaDoorHeadOpen
namespace Go.Proofs.YtjpkncfmionieaaDoor
open Go.RowKit Go.ChangeShapes Go.WideShapes Go.Deep
set_option linter.unusedVariables false

theorem used_two (tp : Nat → TapeV) (h : ∀ k, 2 ≤ k → (tp k).b.size = 0) : ∀ k, used tp (k + 2) = (tp 0).b.size + (tp 1).b.size
  | 0 => by simp [used]
  | k + 1 => by
    show used tp (k + 2) + (tp (k + 2)).b.size = _
    rw [used_two tp h k, h (k + 2) (by omega)]
    rfl
namespace Hd
/-- A disk on which n heads were put. -/
structure St (D : DiskV) (n : Nat) : Prop where
  ok : Ok D
  down : D.down = false
  counts : D.counts = false
  cap : D.cap = 10000
  rest : ∀ k, 2 ≤ k → (D.tp k).b.size = 0
  t0 : (D.tp 0).b.size ≤ 349
  t1 : (D.tp 1).b.size ≤ 349
  v : (n = 0 ∧ diskV D = (HV.zero, 0, false) ∧ (ofV (D.tp 0).b.data.toList).1.gen = 0 ∧ (ofV (D.tp 1).b.data.toList).1.gen = 0) ∨ (0 < n ∧ ∃ h : HV, h.gen = (n : Int) ∧ diskV D = (h, (n - 1) % 2, true))
theorem St.new : St ⟨fun _ => blank, 10000, false, 0, false⟩ 0 :=
  ⟨ok_new (by decide) (by decide), rfl, rfl, rfl, fun _ _ => rfl, Nat.zero_le _, Nat.zero_le _, .inl ⟨rfl, disk0 _, by rw [of_blank]; rfl, by rw [of_blank]; rfl⟩⟩
theorem St.other {D : DiskV} {n : Nat} (h : St D n) : otherV D = n % 2 := by
  rcases h.v with ⟨rfl, h1, _⟩ | ⟨h0, q, _, h1⟩
  · exact other_none h1
  · rw [other_is h1]; omega
theorem St.no {D : DiskV} {n : Nat} {q : HV} (h : St D n) (hm : q.may = false) : putV D q = (4, D) := by
  unfold putV; rw [if_pos hm]
theorem St.put {D : DiskV} {n : Nat} {q : HV} (h : St D n) (hm : q.may = true) (hg : q.gen = (n : Int) + 1) : ∃ D', putV D q = (0, D') ∧ St D' (n + 1) ∧ diskV D' = (q, n % 2, true) := by
  have ho := h.other
  have hel := enc_len hm
  have hbs := bytes_size q
  have hu : used D.tp 32 = (D.tp 0).b.size + (D.tp 1).b.size := used_two D.tp h.rest 30
  have h0 := h.t0
  have h1 := h.t1
  have hp := putV_room hm h.down h.counts (by rw [h.cap, hu]; omega)
  rw [ho] at hp
  have hok := putV_ok h.ok q
  rw [hp] at hok
  have hv : diskV (setT D (n % 2) ⟨bytesV q, (bytesV q).size⟩) = (q, n % 2, true) := by
    unfold diskV
    have hn := Nat.mod_two_eq_zero_or_one n
    rcases hn with hn | hn
    · rw [hn, setT_same, setT_other _ _ _ _ (by decide : (1 : Nat) ≠ 0), ofV_bytes hm]
      refine loadV_left (by show q.gen ≠ 0; omega) ?_
      show (ofV (D.tp 1).b.data.toList).1.gen ≤ q.gen
      rcases h.v with ⟨rfl, _, _, e⟩ | ⟨h0, p, hpg, e⟩
      · omega
      · unfold diskV loadV at e
        split at e
        · simp at e
        · split at e
          · have := (Prod.mk.inj (Prod.mk.inj e).2).1; omega
          · have := (Prod.mk.inj e).1; rw [this]; omega
    · rw [hn, setT_same, setT_other _ _ _ _ (by decide : (0 : Nat) ≠ 1), ofV_bytes hm]
      refine loadV_right (ofV_gen _).2.1 ?_
      show (ofV (D.tp 0).b.data.toList).1.gen < q.gen
      rcases h.v with ⟨rfl, _, e, _⟩ | ⟨h0, p, hpg, e⟩
      · omega
      · unfold diskV loadV at e
        split at e
        · simp at e
        · split at e
          · have := (Prod.mk.inj e).1; rw [this]; omega
          · have := (Prod.mk.inj (Prod.mk.inj e).2).1; omega
  refine ⟨_, hp, ⟨hok, h.down, h.counts, h.cap, fun k hk => ?_, ?_, ?_, .inr ⟨by omega, q, by omega, by rw [hv]; rfl⟩⟩, hv⟩
  · rw [setT_other _ _ _ _ (by omega)]; exact h.rest k hk
  · by_cases e : 0 = n % 2
    · rw [← e, setT_same]; show (bytesV q).size ≤ 349; omega
    · rw [setT_other _ _ _ _ e]; exact h0
  · by_cases e : 1 = n % 2
    · rw [← e, setT_same]; show (bytesV q).size ≤ 349; omega
    · rw [setT_other _ _ _ _ e]; exact h1
end Hd
/-- A head at a place, in a row that came in. -/
def HdBox (w : World) (a : Addr) (q : HdV) : Prop :=
  w.cell? a = some (.int .i64 q.gen) ∧ w.cell? ⟨a.block, a.off + 1, none⟩ = some (.int .i64 q.base) ∧ w.cell? ⟨a.block, a.off + 2, none⟩ = some (.int .i64 q.snap) ∧ w.cell? ⟨a.block, a.off + 3, none⟩ = some (.slice q.lo q.ll q.lc)
def HdsIn (w : World) (ao : Option Addr) (len : Nat) (f : Nat → HdV) : Prop := ∀ W, Below w.heap.size w W → ∀ i, i < len → ∃ a, ao = some a ∧ HdBox W (a.add (i * 4)) (f i) ∧ HdIn W (f i)
set_option maxRecDepth 100000 in
theorem heads_open {H : Type} {enc : TypeId × Value → H} {w : World} {base : Nat} {spare : Nat → Bool} {held : Bool} {v : Value} {d : DataW H} {ps : List MemPlace}
    (hv : v.cells.toList = [v]) (h : DataW.Trod enc Tryd.prog w base spare held 35 v d ps) :
    ∃ (ao : Option Addr) (len cap : Nat) (f : Nat → HdV), v = .slice ao len cap ∧ len ≤ maxLen ∧ HdsIn w ao len f := by
  obtain ⟨fuel, h⟩ := h
  rw [hv] at h
  rcases open_slice Tryd.underlying35 h with ⟨h0, _⟩ | ⟨a, len, cap, m, n, D, Pl, hcs, _, hlc, hcm, hm, _, hi⟩
  · exact ⟨none, 0, 0, fun _ => HdV.zero, by simpa using h0, by decide, fun W _ i hi => absurd hi (Nat.not_lt_zero i)⟩
  · have hk : Tryd.prog.cellsOf 24 = 4 := by kernel_rfl
    have hex : ∀ i, ∃ q : HdV, i < len → HdBox w (a.add (i * 4)) q ∧ HdIn w q := fun i => by
      by_cases hl : i < len
      · obtain ⟨cs', h1, h2⟩ := hi i (by rw [hm]; split <;> omega)
        rw [hk] at h1
        obtain ⟨_, hcl, hat⟩ := World.cells?_some h1
        match cs', hcl with
        | [c0, c1, c2, c3], _ =>
          obtain ⟨q, hq, hin⟩ := head_open h2
          unfold HdV.v at hq
          simp only [Value.agg.injEq] at hq
          have hq' : [c0, c1, c2, c3] = [.int .i64 q.gen, .int .i64 q.base, .int .i64 q.snap, .slice q.lo q.ll q.lc] := by simpa using hq
          simp only [List.cons.injEq, and_true] at hq'
          obtain ⟨rfl, rfl, rfl, rfl⟩ := hq'
          have h0 := hat 0 (by decide)
          generalize a.add (i * 4) = p at h0 hat
          rw [show p.add 0 = p from by obtain ⟨b, o, s⟩ := p; unfold Addr.add; cases s <;> simp] at h0
          exact ⟨q, fun _ => ⟨⟨h0, hat 1 (by decide), hat 2 (by decide), hat 3 (by decide)⟩, hin⟩⟩
      · exact ⟨HdV.zero, fun h => absurd h hl⟩
    obtain ⟨f, hf⟩ := Classical.axiomOfChoice hex
    exact ⟨some a, len, cap, f, by simpa using hcs, by omega, fun W hW i hi => by
      obtain ⟨⟨h0, h1, h2, h3⟩, h4⟩ := hf i hi
      exact ⟨a, rfl, ⟨cell_below h0 hW, cell_below h1 hW, cell_below h2 hW, cell_below h3 hW⟩, h4.below hW⟩⟩
set_option maxRecDepth 100000 in
set_option maxHeartbeats 8000000 in
theorem rises_core (ao : Option Addr) (len cap : Nat) (f : Nat → HdV) (w : World) (hl : len ≤ maxLen) (hf : HdsIn w ao len f) (ht : Tab w) :
    Calls Tryd.prog 4 #[.slice ao len cap] w fun e w' => e = .returned (.bool true) ∧ Below w.heap.size w w' := by
  have HAw := Kp.mk (awake_any w ht)
  have HT := Kp.mk (fun W (hW : Below w.heap.size w W) => ht.below hW)
  have HF := Kp.mk hf
  unfold maxLen at hl
  clear ht hf
  by_cases h20 : len ≤ 20
  · have t1 : decide ((20 : Int) < (len : Int)) = false := decide_eq_false (by omega)
    have t1' : decide (20 < len) = false := decide_eq_false (by omega)
    go_enter Tryd.func4, Tryd.ntmps4
    go_wp2_with fail
    refine HAw.out.mono ?_
    rintro e w2 ⟨rfl, b2⟩
    go_wp2_with fail
    refine (New_ok 10000 _ (by decide) (by decide)).mono ?_
    rintro e w3 ⟨rfl, d3, b3⟩
    have HB3 := Kp.mk (b2.trans (b3.mono b2.size))
    have HD3 := Kp.mk d3
    have HG : Kp (w.heap.size ≤ w2.heap.size) := ⟨b2.size⟩
    clear b2 b3 d3
    generalize w2.heap.size = g at HD3 HG ⊢
    go_wp2
    go_loopw [5, 6] (fun nv iv wr => ∃ (i n : Nat) (D : DiskV), i ≤ len ∧ n ≤ i ∧ iv = .int .i64 i ∧ nv = .int .i64 n ∧ DiskAt wr g D ∧ Hd.St D n ∧ Below w.heap.size w wr) (fun _ iv _ => len - (intOf iv).toNat)
    case atStart => exact ⟨0, 0, _, by omega, by omega, rfl, rfl, HD3.out, Hd.St.new, HB3.out⟩
    case round =>
      clear HD3 HB3
      obtain ⟨i, n, D, hi, hni, rfl, rfl, hd, hst, hb⟩ := hrel
      have HD := Kp.mk hd
      have HS := Kp.mk hst
      have HB := Kp.mk hb
      have hgl := hd.lt
      clear hd hst hb
      by_cases hil : i < len
      · obtain ⟨a, rfl, ⟨c0, c1, c2, c3⟩, hin⟩ := HF.out _ HB.out i hil
        have hi0 : (0 : Int) ≤ (i : Int) := by omega
        have hi1 : (i : Int) < (len : Int) := by omega
        have HRw : Kp (∀ W, Below w.heap.size w W → IntsAt W (f i).lo (f i).ll (f i).lf) := ⟨fun W hW => by
          obtain ⟨_, _, _, h⟩ := HF.out W hW i hil
          exact h.row⟩
        generalize f i = qq at c0 c1 c2 c3 hin HRw
        obtain ⟨gen, base, snap, lo, ll, lc, lf⟩ := qq
        simp only [] at c0 c1 c2 c3 HRw
        have hlm : ll ≤ maxLen := hin.ok.2.2.2.1
        unfold maxLen at hlm
        by_cases h100 : ll ≤ 100
        · have t2 : decide ((100 : Int) < (ll : Int)) = false := decide_eq_false (by omega)
          have t2' : decide (100 < ll) = false := decide_eq_false (by omega)
          have HQ : Kp (∀ W, Below wr.heap.size wr W → HdAt W ⟨(n : Int) + 1, base, snap, lo, ll, lc, lf⟩) := ⟨fun W hW => ⟨by show ll + 1 ≤ maxLen; unfold maxLen; omega, by show (ll + 1) * 8 ≤ _; omega, hin.nil, (hin.row.below hW)⟩⟩
          have HP := Kp.mk (fun W (hW : Below wr.heap.size wr W) => HPut_any g D ⟨(n : Int) + 1, base, snap, lo, ll, lc, lf⟩ W (HD.out.below hW) HS.out.ok (HT.out _ (HB.out.trans (hW.mono HB.out.size))) (HQ.out W hW))
          obtain ⟨qv, hqv⟩ : ∃ x, (HdV.mk ((n : Int) + 1) base snap lo ll lc lf).hv = x := ⟨_, rfl⟩
          have hqg : qv.gen = (n : Int) + 1 := by rw [← hqv]; rfl
          have HQV := Kp.mk hqv
          rw [hqv] at HP
          clear hqv hin
          have HBx := Kp.mk ((Below.refl wr.heap.size wr).alloc (Nat.le_refl _) (.cells #[.int .i64 ((n : Int) + 1), .int .i64 base, .int .i64 snap, .slice lo ll lc] 24))
          have HXx := Kp.mk (heap_alloc_new wr (.cells #[.int .i64 ((n : Int) + 1), .int .i64 base, .int .i64 snap, .slice lo ll lc] 24))
          have hn63 : n ≤ 20 := by omega
          cases hm : qv.may
          · rw [HS.out.no hm] at HP
            unfold HdV.v at HP
            simp only [] at HP
            go_wp2_with fail
            generalize wr.alloc (.cells #[.int .i64 ((n : Int) + 1), .int .i64 base, .int .i64 snap, .slice lo ll lc] 24) = w4 at *
            refine (HP.out _ HBx.out).mono ?_
            rintro e w5 ⟨rfl, d5, k5⟩
            have hx5 := (k5.block _ (lt_of_block' HXx.out) (fun e => by cases e; omega)).trans HXx.out
            have HB5 := Kp.mk (k5.below (HB.out.trans (HBx.out.mono HB.out.size)) (by have := HB.out.size; have := HBx.out.size; omega) HG.out)
            have HD5 := Kp.mk d5
            obtain ⟨y0, y1, y2, y3⟩ := cells4 hx5
            have HQ5 : Kp (HdAt w5 ⟨(n : Int) + 1, base, snap, lo, ll, lc, lf⟩) := ⟨by
              exact ⟨by show ll + 1 ≤ maxLen; unfold maxLen; omega, by show (ll + 1) * 8 ≤ _; omega, (HQ.out _ HBx.out).nil, HRw.out _ HB5.out⟩⟩
            have HM5 := Kp.mk (May_at HQ5.out)
            rw [HQV.out, hm] at HM5
            unfold HdV.v at HM5
            simp only [] at HM5
            clear hx5 d5 k5 c0 c1 c2 c3
            go_wp2_with fail
            refine HM5.out.mono ?_
            rintro e w6 ⟨rfl, b6⟩
            have HB6 := Kp.mk (HB5.out.trans (b6.mono HB5.out.size))
            have HD6 := Kp.mk (HD5.out.below b6)
            clear b6
            go_wp2
            go_roundw
            case rel => exact ⟨i + 1, n, D, by omega, by omega, by go_num, rfl, HD6.out, HS.out, HB6.out⟩
            case measure => simp [intOf]; omega
          · obtain ⟨D', hp', hst', hv'⟩ := HS.out.put hm hqg
            rw [hp'] at HP
            have HS' := Kp.mk hst'
            have HL := Kp.mk (fun W (h : DiskAt W g D') (htb : Tab W) => Load_up g D' W h HS'.out.ok htb HS'.out.down)
            rw [hv'] at HL
            simp only [] at HL
            rw [show (((n % 2 : Nat)) : Int) = (n : Int) % 2 by omega] at HL
            unfold HdV.v at HP
            simp only [] at HP
            clear hp' hst' hv' HD
            go_wp2_with fail
            generalize wr.alloc (.cells #[.int .i64 ((n : Int) + 1), .int .i64 base, .int .i64 snap, .slice lo ll lc] 24) = w4 at *
            refine (HP.out _ HBx.out).mono ?_
            rintro e w5 ⟨rfl, d5, k5⟩
            have hx5 := (k5.block _ (lt_of_block' HXx.out) (fun e => by cases e; omega)).trans HXx.out
            have HB5 := Kp.mk (k5.below (HB.out.trans (HBx.out.mono HB.out.size)) (by have := HB.out.size; have := HBx.out.size; omega) HG.out)
            have HD5 := Kp.mk d5
            clear d5 k5 c0 c1 c2 c3
            go_wp2_with fail
            refine (HL.out _ HD5.out (HT.out _ HB5.out)).mono ?_
            rintro e w6 ⟨⟨gk, bk, sk, lok, llk, lck, lfk⟩, rfl, hqk, ok, b6⟩
            unfold HdV.v
            simp only []
            have hx6 := (b6.block _ (lt_of_block' hx5)).trans hx5
            obtain ⟨y0, y1, y2, y3⟩ := cells4 hx6
            have hlt := lt_of_block' hx6
            have HB6 := Kp.mk (HB5.out.trans (b6.mono HB5.out.size))
            have HD6 := Kp.mk (HD5.out.below b6)
            have HB6a := Kp.mk (HB6.out.alloc HB6.out.size (.cells #[.int .i64 gk, .int .i64 bk, .int .i64 sk, .slice lok llk lck] 24))
            have HD6a := Kp.mk (HD6.out.alloc (.cells #[.int .i64 gk, .int .i64 bk, .int .i64 sk, .slice lok llk lck] 24))
            have HOk := Kp.mk (ok.below ((Below.refl _ _).alloc (Nat.le_refl _) (.cells #[.int .i64 gk, .int .i64 bk, .int .i64 sk, .slice lok llk lck] 24)))
            have HQ6 : Kp (HdAt (w6.alloc (.cells #[.int .i64 gk, .int .i64 bk, .int .i64 sk, .slice lok llk lck] 24)) ⟨(n : Int) + 1, base, snap, lo, ll, lc, lf⟩) := ⟨by
              exact ⟨by show ll + 1 ≤ maxLen; unfold maxLen; omega, by show (ll + 1) * 8 ≤ _; omega, (HQ.out _ HBx.out).nil, HRw.out _ HB6a.out⟩⟩
            have HSm := Kp.mk (Same_any ⟨gk, bk, sk, lok, llk, lck, lfk⟩ ⟨(n : Int) + 1, base, snap, lo, ll, lc, lf⟩ _ HOk.out.at' HQ6.out)
            rw [HQV.out, hqk, show Hd.sameB qv qv = true from Hd.sameB_iff.2 rfl] at HSm
            unfold HdV.v at HSm
            simp only [] at HSm
            clear b6 hx5 hx6 ok hqk
            have hn2 : (n : Int) % 2 = (n : Int) % 2 := rfl
            go_wp2_with fail
            refine HSm.out.mono ?_
            rintro e w7 ⟨rfl, b7⟩
            have HB7 := Kp.mk (HB6a.out.trans (b7.mono HB6a.out.size))
            have HD7 := Kp.mk (HD6a.out.below b7)
            clear b7 y0 y1 y2 y3 hlt
            go_wp2
            go_roundw
            case rel => exact ⟨i + 1, n + 1, D', by omega, by omega, by go_num, by go_num, HD7.out, HS'.out, HB7.out⟩
            case measure => simp [intOf]; omega
        · have t2 : decide ((100 : Int) < (ll : Int)) = true := decide_eq_true (by omega)
          have t2' : decide (100 < ll) = true := decide_eq_true (by omega)
          have HBx := Kp.mk (HB.out.alloc HB.out.size (.cells #[.int .i64 gen, .int .i64 base, .int .i64 snap, .slice lo ll lc] 24))
          clear hin
          go_wp2
          go_ret
          exact ⟨rfl, HBx.out⟩
      · obtain rfl : i = len := by omega
        have HL := Kp.mk (Load_up g D wr HD.out HS.out.ok (HT.out _ HB.out) HS.out.down)
        have hn20 : n ≤ 20 := by omega
        rcases HS.out.v with ⟨h0, hv, _⟩ | ⟨h0, p, _, hv⟩
        · subst h0
          rw [hv] at HL
          clear hv
          go_wp2_with fail
          refine HL.out.mono ?_
          rintro e w6 ⟨⟨gk, bk, sk, lok, llk, lck, lfk⟩, rfl, -, -, b6⟩
          unfold HdV.v
          simp only []
          have HB6 := Kp.mk ((HB.out.trans (b6.mono HB.out.size)).alloc (Nat.le_trans HB.out.size b6.size) (.cells #[.int .i64 gk, .int .i64 bk, .int .i64 sk, .slice lok llk lck] 24))
          clear b6
          go_wp2
          go_ret
          exact ⟨by trivial, HB6.out⟩
        · rw [hv] at HL
          have t3 : decide ((0 : Int) < (n : Int)) = true := decide_eq_true (by omega)
          have t3' : decide (0 < n) = true := decide_eq_true h0
          clear hv
          go_wp2_with fail
          refine HL.out.mono ?_
          rintro e w6 ⟨⟨gk, bk, sk, lok, llk, lck, lfk⟩, rfl, -, -, b6⟩
          unfold HdV.v
          simp only []
          have HB6 := Kp.mk ((HB.out.trans (b6.mono HB.out.size)).alloc (Nat.le_trans HB.out.size b6.size) (.cells #[.int .i64 gk, .int .i64 bk, .int .i64 sk, .slice lok llk lck] 24))
          clear b6
          go_wp2
          go_ret
          exact ⟨by trivial, HB6.out⟩
  · have t1 : decide ((20 : Int) < (len : Int)) = true := decide_eq_true (by omega)
    have t1' : decide (20 < len) = true := decide_eq_true (by omega)
    go_enter Tryd.func4, Tryd.ntmps4
    go_wp2_with fail
    refine HAw.out.mono ?_
    rintro e w2 ⟨rfl, b2⟩
    have HB := Kp.mk b2
    clear b2
    go_wp2
    go_ret
    exact ⟨rfl, HB.out⟩
set_option maxRecDepth 100000 in
theorem walkHeadRises {H : Type} {enc : TypeId × Value → H} {b0 : Nat} {d : DataW H} {ps : List MemPlace} {ts : List TypeId} {ds : List (DataW H)} (w : World) (v : Value) (hv : Value.okWide Tryd.prog w .any b0 35 v) (hV : DataW.Trod enc Tryd.prog w 0 (fun _ => true) true 35 v d ps)
    (hweigh : (DataW.weightsEach Tryd.prog ts ds).all (· ≤ reachBytes) = true) (ht : Tab w) :
    Calls Tryd.prog 4 #[v] w fun e w' => e = .returned (.bool true) ∧ Below w.heap.size w w' := by
  obtain ⟨_, _, _, hv'⟩ := Go.WideShapes.okWide_slice Tryd.underlying35 hv
  obtain ⟨ao, len, cap, f, rfl, hl, hf⟩ := heads_open (by rw [hv']; rfl) hV
  exact rises_core ao len cap f w hl hf ht
end Go.Proofs.YtjpkncfmionieaaDoor
