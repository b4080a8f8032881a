/- Items: as they come in, how they are put, whether they are read. -/
import Derived.Test.YtmfigoffkopohaaItem
import Derived.Test.YtmfigoffkopohaaAsks
import Derived.Deep.RegionHeld3
namespace Go.Proofs.Ytmfigoffkopohaa
open Go.RowKit Go.ChangeShapes Go.WideShapes Go.Deep
set_option linter.unusedVariables false

/-- An Item lies at a place. -/
def ItAt (w : World) (a : Addr) (x : ItV) : Prop := w.cell? (a.add 0) = some (.int .u8 x.what) ∧ w.cell? (a.add 1) = some (.int .u64 x.n) ∧ w.cell? (a.add 2) = some (.string x.s)
theorem item_cells {H : Type} {enc : TypeId × Value → H} {w : World} {base : Nat} {spare : Nat → Bool} {held : Bool} {fuel : Nat} {a : Addr} {cs : List Value} {x : DataW H × List MemPlace}
    (hc : w.cells? base a 3 = some cs) (h : DataW.trod enc Try.prog w base spare held fuel 47 cs = some x) : ∃ q : ItV, q.ok ∧ ItAt w a q := by
  obtain ⟨_, hcl, hat⟩ := World.cells?_some hc
  obtain ⟨xs, n, _, _, _, hxl, hf⟩ := DataW.trod_struct Try.underlying47 h
  match cs, hcl with
  | [c0, c1, c2], _ =>
    have g0 := hf 0 _ rfl
    have g1 := hf 1 _ rfl
    have g2 := hf 2 _ rfl
    have k0 : Try.prog.cellsOf 5 = 1 := by kernel_rfl
    have k1 : Try.prog.cellsOf 22 = 1 := by kernel_rfl
    have k2 : Try.prog.cellsOf 9 = 1 := by kernel_rfl
    match xs, hxl with
    | [y0, y1, y2], _ =>
      have e0 : DataW.trod enc Try.prog w base spare held n 5 [c0] = some y0 := by simpa [k0] using g0
      have e1 : DataW.trod enc Try.prog w base spare held n 22 [c1] = some y1 := by simpa [k1] using g1
      have e2 : DataW.trod enc Try.prog w base spare held n 9 [c2] = some y2 := by simpa [k2] using g2
      obtain ⟨n0, r0, _, w0⟩ := DataW.trod_int Try.underlying5 e0
      obtain ⟨n1, r1, _, w1⟩ := DataW.trod_int Try.underlying22 e1
      obtain ⟨n2, r2, _, w2⟩ := DataW.trod_string Try.underlying9 e2
      simp only [List.cons.injEq, and_true] at r0 r1 r2
      subst r0 r1 r2
      obtain ⟨m0, rfl, b0⟩ := wf_u8 w0
      obtain ⟨m1, rfl, b1⟩ := u64_nat w1
      exact ⟨⟨m0, m1, n2⟩, ⟨b0, b1, w2⟩, hat 0 (by decide), hat 1 (by decide), hat 2 (by decide)⟩
/-- The row of Items. -/
theorem items_open {H : Type} {enc : TypeId × Value → H} {w : World} {base : Nat} {spare : Nat → Bool} {held : Bool} {v : Value} {d : DataW H} {ps : List MemPlace}
    (hv : v.cells.toList = [v]) (h : DataW.Trod enc Try.prog w base spare held 43 v d ps) :
    ∃ (ao : Option Addr) (len cap : Nat) (f : Nat → ItV), v = .slice ao len cap ∧ len ≤ maxLen ∧ ∀ i, i < len → ∃ a, ao = some a ∧ (f i).ok ∧ ItAt w (a.add (i * 3)) (f i) := by
  obtain ⟨fuel, h⟩ := h
  rw [hv] at h
  rcases open_slice Try.underlying43 h with ⟨h0, _⟩ | ⟨a, len, cap, m, n, D, Pl, hcs, _, hlc, hcm, hm, _, hi⟩
  · exact ⟨none, 0, 0, fun _ => ⟨0, 0, ⟨#[]⟩⟩, by simpa using h0, by decide, fun i hi => absurd hi (Nat.not_lt_zero i)⟩
  · have hk : Try.prog.cellsOf 47 = 3 := by kernel_rfl
    have hex : ∀ i, ∃ q : ItV, i < len → q.ok ∧ ItAt w (a.add (i * 3)) q := fun i => by
      by_cases hl : i < len
      · obtain ⟨cs', h1, h2⟩ := hi i (by rw [hm]; split <;> omega)
        rw [hk] at h1
        obtain ⟨q, hq⟩ := item_cells h1 h2
        exact ⟨q, fun _ => hq⟩
      · exact ⟨⟨0, 0, ⟨#[]⟩⟩, fun h => absurd h hl⟩
    obtain ⟨f, hf⟩ := Classical.axiomOfChoice hex
    exact ⟨some a, len, cap, f, by simpa using hcs, by omega, fun i hi => ⟨a, rfl, hf i hi⟩⟩
theorem ItAt.lt {w : World} {a : Addr} {q : ItV} (h : ItAt w a q) : a.block < w.heap.size := by
  have h0 := h.1
  unfold World.cell? at h0
  rcases Nat.lt_or_ge a.block w.heap.size with h | h
  · exact h
  · simp [Addr.add, Array.getElem?_eq_none h] at h0
theorem ItAt.below {w w' : World} {a : Addr} {q : ItV} (h : ItAt w a q) (hb : Below w.heap.size w w') : ItAt w' a q := by
  have hl := h.lt
  obtain ⟨h0, h1, h2⟩ := h
  exact ⟨by rw [hb.cell (p := a.add 0) hl]; exact h0, by rw [hb.cell (p := a.add 1) hl]; exact h1, by rw [hb.cell (p := a.add 2) hl]; exact h2⟩
set_option maxRecDepth 20000 in
theorem long_any (w : World) (ao : Option Addr) (len cap : Nat) (f : Nat → ItV) (hl : len ≤ maxLen) (hf : ∀ i, i < len → ∃ a, ao = some a ∧ (f i).ok ∧ ItAt w (a.add (i * 3)) (f i)) :
    Calls Try.prog 29 #[.slice ao len cap] w fun e w' => e = .returned (.bool (decide (6000 ≤ cost f len))) ∧ w = w' := by
  unfold maxLen at hl
  have HF := Kp.mk hf
  clear hf
  obtain ⟨B, hB⟩ : ∃ B, decide (6000 ≤ cost f len) = B := ⟨_, rfl⟩
  rw [hB]
  have HB := Kp.mk hB
  clear hB
  go_enter Try.func29, Try.ntmps29
  go_wp2
  go_loop [3, 4] (fun n i => ∃ k : Nat, k ≤ len ∧ i = .int .i64 k ∧ n = .int .i64 (cost f k) ∧ cost f k < 12010) (fun _ i => len - (intOf i).toNat)
  case atStart => exact ⟨0, by omega, rfl, rfl, by simp [cost]⟩
  case round =>
    obtain ⟨k, hk, rfl, rfl, hc⟩ := hrel
    by_cases hkl : k < len
    · by_cases h6 : cost f k < 6000
      · obtain ⟨a, rfl, hok, hat⟩ := HF.out k hkl
        have hs := hok.2.2
        unfold maxLen at hs
        obtain ⟨_, _, c2⟩ := hat
        have c2 : w.cell? ⟨(a.add (k * 3)).block, (a.add (k * 3)).off + 2, none⟩ = some (.string (f k).s) := c2
        have HC : Kp (cost f (k + 1) = cost f k + (10 + min (f k).s.size 6000)) := ⟨rfl⟩
        have t1 : decide ((cost f k : Int) < 6000) = true := by rw [decide_eq_true_eq]; omega
        clear hok
        generalize f k = q at c2 hs HC
        generalize cost f k = C at h6 hc HC t1
        have hmin : min (q.s.size : Int) 6000 = ((min q.s.size 6000 : Nat) : Int) := by omega
        have hmx : min q.s.size 6000 ≤ 6000 := Nat.min_le_right _ _
        generalize min q.s.size 6000 = m at hmin hmx HC
        go_wp2
        go_round
        case rel => exact ⟨k + 1, by omega, by go_num, by rw [HC.out]; go_num, by rw [HC.out]; omega⟩
        case measure => simp [intOf]; omega
      · have HC : Kp (true = B) := ⟨by rw [← HB.out]; symm; rw [decide_eq_true_eq]; have := cost_mono f hk; omega⟩
        have t1 : decide ((cost f k : Int) < 6000) = false := by rw [decide_eq_false_iff_not]; omega
        have t2 : decide ((6000 : Int) ≤ (cost f k : Int)) = true := by rw [decide_eq_true_eq]; omega
        generalize cost f k = C at h6 hc t1 t2
        go_wp2
        go_ret
        exact ⟨ret_bool HC.out, rfl⟩
    · obtain rfl : k = len := by omega
      have HC : Kp (decide ((6000 : Int) ≤ (cost f k : Int)) = B) := ⟨by rw [← HB.out, Bool.eq_iff_iff, decide_eq_true_eq, decide_eq_true_eq]; omega⟩
      generalize cost f k = C at hc HC
      go_wp2
      go_ret
      exact ⟨ret_bool HC.out, rfl⟩
/-- The item's box. -/
theorem box_cells (w : World) (x : ItV) : (w.alloc (.cells #[.int .u8 x.what, .int .u64 x.n, .string x.s] 47)).cell? ⟨w.heap.size, 0, none⟩ = some (.int .u8 x.what) ∧ (w.alloc (.cells #[.int .u8 x.what, .int .u64 x.n, .string x.s] 47)).cell? ⟨w.heap.size, 1, none⟩ = some (.int .u64 x.n) ∧ (w.alloc (.cells #[.int .u8 x.what, .int .u64 x.n, .string x.s] 47)).cell? ⟨w.heap.size, 2, none⟩ = some (.string x.s) := by
  have h := heap_alloc_new w (.cells #[.int .u8 x.what, .int .u64 x.n, .string x.s] 47)
  unfold World.cell?
  rw [h]
  exact ⟨rfl, rfl, rfl⟩
theorem wrap_s64 {n : Nat} (h : n < 18446744073709551616) : wrap64 (n : Int) = s64 n := by
  unfold wrap64 s64; split <;> omega
set_option maxRecDepth 20000 in
theorem add_any (x : ItV) (hx : x.ok) (v : Value) (base : Nat) (l : List UInt8) (w : World) (hb : BRow w base v l) (hbase : base ≤ w.heap.size) (hl : l.length ≤ 1000000) (hs : x.s.size ≤ 6000) :
    Calls Try.prog 30 #[x.v, v] w fun e w' => ∃ v', e = .returned v' ∧ BRow w' base v' (l ++ ib x) ∧ w.grownBy w' v.ownBlock ∧ NewOr w v v' := by
  obtain ⟨what, n, s⟩ := x
  obtain ⟨q1, q2, q3⟩ := hx
  simp only [] at q1 q2 q3 hs
  have HA : Kp (∀ o, BRow (w.alloc o) base v l) := ⟨fun o => hb.alloc o⟩
  have HBase : Kp (∀ o, base ≤ (w.alloc o).heap.size) := ⟨fun o => by simp; omega⟩
  have HZ : Kp (∀ o v' w', (w.alloc o).grownBy w' v.ownBlock → NewOr (w.alloc o) v v' → w.grownBy w' v.ownBlock ∧ NewOr w v v') := ⟨fun o v' w' h1 h2 => ⟨grown_trans' (World.grownBy_alloc _ _ _) h1, fun k hk => (h2 k hk).imp id (fun h => Nat.le_trans (by simp) h)⟩⟩
  unfold ItV.v
  simp only []
  by_cases w0 : what = 0
  · subst w0
    have hV : Kp (ib ⟨0, n, s⟩ = Var.vb n) := ⟨by simp [ib]⟩
    have HC := Kp.mk (fun o => PutUvarint_any v base l n _ (HA.out o) (HBase.out o) (by omega) q2)
    clear hb hbase hl
    go_enter Try.func30, Try.ntmps30
    go_wp2_with fail
    refine (HC.out _).mono ?_
    rintro e w' ⟨v', rfl, h1, h2, h3⟩
    have T1 := Kp.mk h1
    have T2 := Kp.mk (HZ.out _ _ _ h2 h3)
    clear h1 h2 h3
    go_wp2
    go_ret
    exact ⟨v', rfl, by rw [hV.out]; exact T1.out, T2.out.1, T2.out.2⟩
  by_cases w1 : what = 1
  · subst w1
    have hV : Kp (ib ⟨1, n, s⟩ = Var.vb (Var.zig (s64 n))) := ⟨by simp [ib]⟩
    have hr := s64_range q2
    have hw := wrap_s64 q2
    have HZig := Kp.mk (fun w => Zig_any (s64 n) w hr.1 hr.2)
    have hz := Var.zig_lt hr.1 hr.2
    generalize s64 n = m at hV HZig hz hw
    generalize Var.zig m = z at hV HZig hz
    have HC := Kp.mk (fun o => PutUvarint_any v base l z _ (HA.out o) (HBase.out o) (by omega) hz)
    clear hb hbase hl
    go_enter Try.func30, Try.ntmps30
    go_wp2_with fail
    refine (HZig.out _).mono ?_
    rintro e w' ⟨rfl, rfl⟩
    go_wp2_with fail
    refine (HC.out _).mono ?_
    rintro e w' ⟨v', rfl, h1, h2, h3⟩
    have T1 := Kp.mk h1
    have T2 := Kp.mk (HZ.out _ _ _ h2 h3)
    clear h1 h2 h3
    go_wp2
    go_ret
    exact ⟨v', rfl, by rw [hV.out]; exact T1.out, T2.out.1, T2.out.2⟩
  by_cases w2 : what = 2
  · subst w2
    have hV : Kp (ib ⟨2, n, s⟩ = Var.fb 4 n) := ⟨by simp [ib]⟩
    have HC := Kp.mk (fun o => PutFixed_any v base l n 4 _ (HA.out o) (HBase.out o) (by omega) q2)
    have hfx : fixedOf n 4 = Var.fb 4 n := rfl
    rw [hfx] at HC
    clear hfx
    clear hb hbase hl
    go_enter Try.func30, Try.ntmps30
    go_wp2_with fail
    refine (HC.out _).mono ?_
    rintro e w' ⟨v', rfl, h1, h2, h3⟩
    have T1 := Kp.mk h1
    have T2 := Kp.mk (HZ.out _ _ _ h2 h3)
    clear h1 h2 h3
    go_wp2
    go_ret
    exact ⟨v', rfl, by rw [hV.out]; exact T1.out, T2.out.1, T2.out.2⟩
  by_cases w3 : what = 3
  · subst w3
    have hV : Kp (ib ⟨3, n, s⟩ = Var.fb 8 n) := ⟨by simp [ib]⟩
    have HC := Kp.mk (fun o => PutFixed_any v base l n 8 _ (HA.out o) (HBase.out o) (by omega) q2)
    have hfx : fixedOf n 8 = Var.fb 8 n := rfl
    rw [hfx] at HC
    clear hfx
    clear hb hbase hl
    go_enter Try.func30, Try.ntmps30
    go_wp2_with fail
    refine (HC.out _).mono ?_
    rintro e w' ⟨v', rfl, h1, h2, h3⟩
    have T1 := Kp.mk h1
    have T2 := Kp.mk (HZ.out _ _ _ h2 h3)
    clear h1 h2 h3
    go_wp2
    go_ret
    exact ⟨v', rfl, by rw [hV.out]; exact T1.out, T2.out.1, T2.out.2⟩
  · have hV : Kp (ib ⟨what, n, s⟩ = Var.vb s.size ++ s.data.toList) := ⟨by simp [ib, w0, w1, w2, w3]⟩
    have t0 : ((what : Int) == 0) = false := by rw [beq_eq_false_iff_ne]; omega
    have t1 : ((what : Int) == 1) = false := by rw [beq_eq_false_iff_ne]; omega
    have t2 : ((what : Int) == 2) = false := by rw [beq_eq_false_iff_ne]; omega
    have t3 : ((what : Int) == 3) = false := by rw [beq_eq_false_iff_ne]; omega
    have HC := Kp.mk (fun o => PutText_any v base l s _ (HA.out o) (HBase.out o) (by omega))
    clear hb hbase hl
    go_enter Try.func30, Try.ntmps30
    go_wp2_with fail
    refine (HC.out _).mono ?_
    rintro e w' ⟨v', rfl, h1, h2, h3⟩
    have T1 := Kp.mk h1
    have T2 := Kp.mk (HZ.out _ _ _ h2 h3)
    clear h1 h2 h3
    go_wp2
    go_ret
    exact ⟨v', rfl, by rw [hV.out]; exact T1.out, T2.out.1, T2.out.2⟩
/-- After a call that writes block g alone the box is as it was. -/
theorem box_kept {w w' w0 : World} {x : ItV} {g : Nat} (hg : (w.alloc (.cells #[.int .u8 x.what, .int .u64 x.n, .string x.s] 47)).grownBy w' (some g)) (hne : g < w.heap.size) :
    w'.cell? ⟨w.heap.size, 0, none⟩ = some (.int .u8 x.what) ∧ w'.cell? ⟨w.heap.size, 1, none⟩ = some (.int .u64 x.n) ∧ w'.cell? ⟨w.heap.size, 2, none⟩ = some (.string x.s) := by
  have h := hg.block w.heap.size (by simp) (fun h => by have := Option.some.inj h; omega)
  have hb := box_cells w x
  exact ⟨by rw [World.cell?_of_block (a := ⟨w.heap.size, 0, none⟩) h]; exact hb.1, by rw [World.cell?_of_block (a := ⟨w.heap.size, 1, none⟩) h]; exact hb.2.1, by rw [World.cell?_of_block (a := ⟨w.heap.size, 2, none⟩) h]; exact hb.2.2⟩
theorem drewAlloc (w : World) (o : Obj) (w' : World) (row : Option Nat) (h : (w.alloc o).drew.grownBy w' row) : (w.alloc o).grownBy w' row := grown_trans' (grown_drew _ _) h
set_option maxRecDepth 20000 in
theorem is_any0 (g : Nat) (s : ByteArray) (p e : Nat) (x : ItV) (hx : x.ok) (hk : x.what = 0) (w : World) (h : Rd w g s p e) (hp : p ≤ s.size) (hs : s.size ≤ 140737488351232) :
    Calls Try.prog 32 #[x.v, .pointer (some ⟨g, 0, none⟩)] w fun r w' => r = .returned (.bool (isV s.data.toList p e x).1) ∧ Rd w' g s (isV s.data.toList p e x).2.1 (isV s.data.toList p e x).2.2 ∧ w.grownBy w' (some g) := by
  have HA : Kp (∀ o, Rd (w.alloc o).drew g s p e) := ⟨fun o => (Rd.alloc h o).drew⟩
  have hlt := Kp.mk h.lt
  have HZ : Kp (∀ w', (w.alloc (.cells #[.int .u8 x.what, .int .u64 x.n, .string x.s] 47)).drew.grownBy w' (some g) → w.grownBy w' (some g) ∧ w'.cell? ⟨w.heap.size, 0, none⟩ = some (.int .u8 x.what) ∧ w'.cell? ⟨w.heap.size, 1, none⟩ = some (.int .u64 x.n) ∧ w'.cell? ⟨w.heap.size, 2, none⟩ = some (.string x.s)) := ⟨fun w' h1 => ⟨grown_trans' (World.grownBy_alloc _ _ _) (drewAlloc _ _ _ _ h1), box_kept (w0 := w) (drewAlloc _ _ _ _ h1) hlt.out⟩⟩
  have hc := box_cells w x
  obtain ⟨what, n, t⟩ := x
  obtain ⟨q1, q2, q3⟩ := hx
  simp only [] at q1 q2 q3 HZ hc hk
  subst hk
  obtain ⟨hc0, hc1, hc2⟩ := hc
  unfold ItV.v
  simp only []
  have hV : Kp (isV s.data.toList p e ⟨0, n, t⟩ = ((Var.rVarint s.data.toList p e n).1 == n, (Var.rVarint s.data.toList p e n).2)) := ⟨by simp [isV]⟩
  have HC := Kp.mk (fun o => Varint_any g s p e n _ (HA.out o) hp hs q2)
  generalize Var.rVarint s.data.toList p e n = x at HC hV
  obtain ⟨x1, x2, x3⟩ := x
  simp only [] at HC hV
  clear h
  unfold maxLen at q3
  go_enter Try.func32, Try.ntmps32
  go_wp2_with fail
  go_region_held3 (fun w' => w'.cell? ⟨w.heap.size, 0, none⟩ = some (.int .u8 (0 : Nat)) ∧ w'.cell? ⟨w.heap.size, 1, none⟩ = some (.int .u64 n) ∧ w'.cell? ⟨w.heap.size, 2, none⟩ = some (.string t)) (go_keep)
    (first | (go_at_call 41; refine (HC.out _).mono ?_; rintro e0 w' ⟨rfl, t5, t6⟩; have T5 := Kp.mk t5; have T6 := Kp.mk (HZ.out _ t6); obtain ⟨_, k0, k1, k2⟩ := HZ.out _ t6; clear t5 t6))
  go_wp2
  go_ret
  refine ⟨?_, by rw [hV.out]; exact T5.out, T6.out.1⟩
  rw [hV.out]
  exact ret_bool (by rw [Bool.eq_iff_iff, beq_iff_eq, beq_iff_eq]; omega)
set_option maxRecDepth 20000 in
theorem is_any1 (g : Nat) (s : ByteArray) (p e : Nat) (x : ItV) (hx : x.ok) (hk : x.what = 1) (w : World) (h : Rd w g s p e) (hp : p ≤ s.size) (hs : s.size ≤ 140737488351232) :
    Calls Try.prog 32 #[x.v, .pointer (some ⟨g, 0, none⟩)] w fun r w' => r = .returned (.bool (isV s.data.toList p e x).1) ∧ Rd w' g s (isV s.data.toList p e x).2.1 (isV s.data.toList p e x).2.2 ∧ w.grownBy w' (some g) := by
  have HA : Kp (∀ o, Rd (w.alloc o).drew g s p e) := ⟨fun o => (Rd.alloc h o).drew⟩
  have hlt := Kp.mk h.lt
  have HZ : Kp (∀ w', (w.alloc (.cells #[.int .u8 x.what, .int .u64 x.n, .string x.s] 47)).drew.grownBy w' (some g) → w.grownBy w' (some g) ∧ w'.cell? ⟨w.heap.size, 0, none⟩ = some (.int .u8 x.what) ∧ w'.cell? ⟨w.heap.size, 1, none⟩ = some (.int .u64 x.n) ∧ w'.cell? ⟨w.heap.size, 2, none⟩ = some (.string x.s)) := ⟨fun w' h1 => ⟨grown_trans' (World.grownBy_alloc _ _ _) (drewAlloc _ _ _ _ h1), box_kept (w0 := w) (drewAlloc _ _ _ _ h1) hlt.out⟩⟩
  have hc := box_cells w x
  obtain ⟨what, n, t⟩ := x
  obtain ⟨q1, q2, q3⟩ := hx
  simp only [] at q1 q2 q3 HZ hc hk
  subst hk
  obtain ⟨hc0, hc1, hc2⟩ := hc
  unfold ItV.v
  simp only []
  have hw : IntKind.i64.wrap (n : Int) = s64 n := by rw [IntKind.wrap_i64]; have := wrap_s64 q2; unfold wrap64 at this; exact this
  have hsr := s64_range q2
  have hV : Kp (isV s.data.toList p e ⟨1, n, t⟩ = ((Var.rZag s.data.toList p e (s64 n) (s64 n)).1 == (s64 n), (Var.rZag s.data.toList p e (s64 n) (s64 n)).2)) := ⟨by simp [isV]⟩
  generalize s64 n = m at hV hw hsr
  have HC := Kp.mk (fun o => RZag_any g s p e m m _ (HA.out o) hp hs)
  generalize Var.rZag s.data.toList p e m m = x at HC hV
  obtain ⟨x1, x2, x3⟩ := x
  simp only [] at HC hV
  clear h
  unfold maxLen at q3
  go_enter Try.func32, Try.ntmps32
  go_wp2_with fail
  go_region_held3 (fun w' => w'.cell? ⟨w.heap.size, 0, none⟩ = some (.int .u8 (1 : Nat)) ∧ w'.cell? ⟨w.heap.size, 1, none⟩ = some (.int .u64 n) ∧ w'.cell? ⟨w.heap.size, 2, none⟩ = some (.string t)) (go_keep)
    (first | (go_at_call 39; refine (HC.out _).mono ?_; rintro e0 w' ⟨rfl, t5, t6⟩; have T5 := Kp.mk t5; have T6 := Kp.mk (HZ.out _ t6); obtain ⟨_, k0, k1, k2⟩ := HZ.out _ t6; clear t5 t6))
  go_wp2
  go_ret
  refine ⟨?_, by rw [hV.out]; exact T5.out, T6.out.1⟩
  rw [hV.out]
  exact ret_bool rfl
set_option maxRecDepth 20000 in
theorem is_any2 (g : Nat) (s : ByteArray) (p e : Nat) (x : ItV) (hx : x.ok) (hk : x.what = 2) (w : World) (h : Rd w g s p e) (hp : p ≤ s.size) (hs : s.size ≤ 140737488351232) :
    Calls Try.prog 32 #[x.v, .pointer (some ⟨g, 0, none⟩)] w fun r w' => r = .returned (.bool (isV s.data.toList p e x).1) ∧ Rd w' g s (isV s.data.toList p e x).2.1 (isV s.data.toList p e x).2.2 ∧ w.grownBy w' (some g) := by
  have HA : Kp (∀ o, Rd (w.alloc o).drew g s p e) := ⟨fun o => (Rd.alloc h o).drew⟩
  have hlt := Kp.mk h.lt
  have HZ : Kp (∀ w', (w.alloc (.cells #[.int .u8 x.what, .int .u64 x.n, .string x.s] 47)).drew.grownBy w' (some g) → w.grownBy w' (some g) ∧ w'.cell? ⟨w.heap.size, 0, none⟩ = some (.int .u8 x.what) ∧ w'.cell? ⟨w.heap.size, 1, none⟩ = some (.int .u64 x.n) ∧ w'.cell? ⟨w.heap.size, 2, none⟩ = some (.string x.s)) := ⟨fun w' h1 => ⟨grown_trans' (World.grownBy_alloc _ _ _) (drewAlloc _ _ _ _ h1), box_kept (w0 := w) (drewAlloc _ _ _ _ h1) hlt.out⟩⟩
  have hc := box_cells w x
  obtain ⟨what, n, t⟩ := x
  obtain ⟨q1, q2, q3⟩ := hx
  simp only [] at q1 q2 q3 HZ hc hk
  subst hk
  obtain ⟨hc0, hc1, hc2⟩ := hc
  unfold ItV.v
  simp only []
  have hV : Kp (isV s.data.toList p e ⟨2, n, t⟩ = ((Var.rFixed s.data.toList p e 4).1 == n % 4294967296, (Var.rFixed s.data.toList p e 4).2)) := ⟨by simp [isV]⟩
  have HC := Kp.mk (fun o => RFixed_any g s p e 4 _ (HA.out o) hp hs)
  generalize Var.rFixed s.data.toList p e 4 = x at HC hV
  obtain ⟨x1, x2, x3⟩ := x
  simp only [] at HC hV
  clear h
  unfold maxLen at q3
  go_enter Try.func32, Try.ntmps32
  go_wp2_with fail
  go_region_held3 (fun w' => w'.cell? ⟨w.heap.size, 0, none⟩ = some (.int .u8 (2 : Nat)) ∧ w'.cell? ⟨w.heap.size, 1, none⟩ = some (.int .u64 n) ∧ w'.cell? ⟨w.heap.size, 2, none⟩ = some (.string t)) (go_keep)
    (first | (go_at_call 42; refine (HC.out _).mono ?_; rintro e0 w' ⟨rfl, t5, t6⟩; have T5 := Kp.mk t5; have T6 := Kp.mk (HZ.out _ t6); obtain ⟨_, k0, k1, k2⟩ := HZ.out _ t6; clear t5 t6))
  go_wp2
  go_ret
  refine ⟨?_, by rw [hV.out]; exact T5.out, T6.out.1⟩
  rw [hV.out]
  exact ret_bool (by rw [Bool.eq_iff_iff, beq_iff_eq, beq_iff_eq, IntKind.wrap_u64, IntKind.wrap_u32]; omega)
set_option maxRecDepth 20000 in
theorem is_any3 (g : Nat) (s : ByteArray) (p e : Nat) (x : ItV) (hx : x.ok) (hk : x.what = 3) (w : World) (h : Rd w g s p e) (hp : p ≤ s.size) (hs : s.size ≤ 140737488351232) :
    Calls Try.prog 32 #[x.v, .pointer (some ⟨g, 0, none⟩)] w fun r w' => r = .returned (.bool (isV s.data.toList p e x).1) ∧ Rd w' g s (isV s.data.toList p e x).2.1 (isV s.data.toList p e x).2.2 ∧ w.grownBy w' (some g) := by
  have HA : Kp (∀ o, Rd (w.alloc o).drew g s p e) := ⟨fun o => (Rd.alloc h o).drew⟩
  have hlt := Kp.mk h.lt
  have HZ : Kp (∀ w', (w.alloc (.cells #[.int .u8 x.what, .int .u64 x.n, .string x.s] 47)).drew.grownBy w' (some g) → w.grownBy w' (some g) ∧ w'.cell? ⟨w.heap.size, 0, none⟩ = some (.int .u8 x.what) ∧ w'.cell? ⟨w.heap.size, 1, none⟩ = some (.int .u64 x.n) ∧ w'.cell? ⟨w.heap.size, 2, none⟩ = some (.string x.s)) := ⟨fun w' h1 => ⟨grown_trans' (World.grownBy_alloc _ _ _) (drewAlloc _ _ _ _ h1), box_kept (w0 := w) (drewAlloc _ _ _ _ h1) hlt.out⟩⟩
  have hc := box_cells w x
  obtain ⟨what, n, t⟩ := x
  obtain ⟨q1, q2, q3⟩ := hx
  simp only [] at q1 q2 q3 HZ hc hk
  subst hk
  obtain ⟨hc0, hc1, hc2⟩ := hc
  unfold ItV.v
  simp only []
  have hV : Kp (isV s.data.toList p e ⟨3, n, t⟩ = ((Var.rFixed s.data.toList p e 8).1 == n, (Var.rFixed s.data.toList p e 8).2)) := ⟨by simp [isV]⟩
  have HC := Kp.mk (fun o => RFixed_any g s p e 8 _ (HA.out o) hp hs)
  generalize Var.rFixed s.data.toList p e 8 = x at HC hV
  obtain ⟨x1, x2, x3⟩ := x
  simp only [] at HC hV
  clear h
  unfold maxLen at q3
  go_enter Try.func32, Try.ntmps32
  go_wp2_with fail
  go_region_held3 (fun w' => w'.cell? ⟨w.heap.size, 0, none⟩ = some (.int .u8 (3 : Nat)) ∧ w'.cell? ⟨w.heap.size, 1, none⟩ = some (.int .u64 n) ∧ w'.cell? ⟨w.heap.size, 2, none⟩ = some (.string t)) (go_keep)
    (first | (go_at_call 42; refine (HC.out _).mono ?_; rintro e0 w' ⟨rfl, t5, t6⟩; have T5 := Kp.mk t5; have T6 := Kp.mk (HZ.out _ t6); obtain ⟨_, k0, k1, k2⟩ := HZ.out _ t6; clear t5 t6))
  go_wp2
  go_ret
  refine ⟨?_, by rw [hV.out]; exact T5.out, T6.out.1⟩
  rw [hV.out]
  exact ret_bool (by rw [Bool.eq_iff_iff, beq_iff_eq, beq_iff_eq]; omega)
set_option maxRecDepth 20000 in
theorem is_any4 (g : Nat) (s : ByteArray) (p e : Nat) (x : ItV) (hx : x.ok) (hk : x.what ≠ 0 ∧ x.what ≠ 1 ∧ x.what ≠ 2 ∧ x.what ≠ 3) (w : World) (h : Rd w g s p e) (hp : p ≤ s.size) (hs : s.size ≤ 140737488351232) :
    Calls Try.prog 32 #[x.v, .pointer (some ⟨g, 0, none⟩)] w fun r w' => r = .returned (.bool (isV s.data.toList p e x).1) ∧ Rd w' g s (isV s.data.toList p e x).2.1 (isV s.data.toList p e x).2.2 ∧ w.grownBy w' (some g) := by
  have HA : Kp (∀ o, Rd (w.alloc o).drew g s p e) := ⟨fun o => (Rd.alloc h o).drew⟩
  have hlt := Kp.mk h.lt
  have HZ : Kp (∀ w', (w.alloc (.cells #[.int .u8 x.what, .int .u64 x.n, .string x.s] 47)).drew.grownBy w' (some g) → w.grownBy w' (some g) ∧ w'.cell? ⟨w.heap.size, 0, none⟩ = some (.int .u8 x.what) ∧ w'.cell? ⟨w.heap.size, 1, none⟩ = some (.int .u64 x.n) ∧ w'.cell? ⟨w.heap.size, 2, none⟩ = some (.string x.s)) := ⟨fun w' h1 => ⟨grown_trans' (World.grownBy_alloc _ _ _) (drewAlloc _ _ _ _ h1), box_kept (w0 := w) (drewAlloc _ _ _ _ h1) hlt.out⟩⟩
  have hc := box_cells w x
  obtain ⟨what, n, t⟩ := x
  obtain ⟨q1, q2, q3⟩ := hx
  simp only [] at q1 q2 q3 HZ hc hk
  obtain ⟨w0, w1, w2, w3⟩ := hk
  obtain ⟨hc0, hc1, hc2⟩ := hc
  unfold ItV.v
  simp only []
  have t0 : ((what : Int) == 0) = false := by rw [beq_eq_false_iff_ne]; omega
  have t1 : ((what : Int) == 1) = false := by rw [beq_eq_false_iff_ne]; omega
  have t2 : ((what : Int) == 2) = false := by rw [beq_eq_false_iff_ne]; omega
  have t3 : ((what : Int) == 3) = false := by rw [beq_eq_false_iff_ne]; omega
  have hV : Kp (isV s.data.toList p e ⟨what, n, t⟩ = ((Var.rText s.data.toList p e t.size).1 == t.data.toList, (Var.rText s.data.toList p e t.size).2)) := ⟨by simp [isV, w0, w1, w2, w3]⟩
  have HC := Kp.mk (fun o => Text_any g s p e t.size _ (HA.out o) hp hs (by unfold maxLen at q3; omega) (by unfold maxLen at q3; omega))
  generalize Var.rText s.data.toList p e t.size = x at HC hV
  obtain ⟨x1, x2, x3⟩ := x
  simp only [] at HC hV
  have ht : Kp (((B x1).toList == t.toList) = (x1 == t.data.toList)) := ⟨by rw [bytes_toList, bytes_toList, B_list]⟩
  clear h
  unfold maxLen at q3
  go_enter Try.func32, Try.ntmps32
  go_wp2_with fail
  go_region_held3 (fun w' => w'.cell? ⟨w.heap.size, 0, none⟩ = some (.int .u8 what) ∧ w'.cell? ⟨w.heap.size, 1, none⟩ = some (.int .u64 n) ∧ w'.cell? ⟨w.heap.size, 2, none⟩ = some (.string t)) (go_keep)
    (first | (go_at_call 36; refine (HC.out _).mono ?_; rintro e0 w' ⟨rfl, t5, t6⟩; have T5 := Kp.mk t5; have T6 := Kp.mk (HZ.out _ t6); obtain ⟨_, k0, k1, k2⟩ := HZ.out _ t6; clear t5 t6))
  go_wp2
  go_ret
  refine ⟨?_, by rw [hV.out]; exact T5.out, T6.out.1⟩
  rw [hV.out]
  exact ret_bool ht.out
theorem is_any (g : Nat) (s : ByteArray) (p e : Nat) (x : ItV) (hx : x.ok) (w : World) (h : Rd w g s p e) (hp : p ≤ s.size) (hs : s.size ≤ 140737488351232) :
    Calls Try.prog 32 #[x.v, .pointer (some ⟨g, 0, none⟩)] w fun r w' => r = .returned (.bool (isV s.data.toList p e x).1) ∧ Rd w' g s (isV s.data.toList p e x).2.1 (isV s.data.toList p e x).2.2 ∧ w.grownBy w' (some g) := by
  by_cases h0 : x.what = 0
  · exact is_any0 g s p e x hx h0 w h hp hs
  by_cases h1 : x.what = 1
  · exact is_any1 g s p e x hx h1 w h hp hs
  by_cases h2 : x.what = 2
  · exact is_any2 g s p e x hx h2 w h hp hs
  by_cases h3 : x.what = 3
  · exact is_any3 g s p e x hx h3 w h hp hs
  · exact is_any4 g s p e x hx ⟨h0, h1, h2, h3⟩ w h hp hs
end Go.Proofs.Ytmfigoffkopohaa
