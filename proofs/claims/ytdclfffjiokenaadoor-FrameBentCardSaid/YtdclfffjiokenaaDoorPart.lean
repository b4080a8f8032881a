/- Parts: as they come in, how long they are, the row that they make. -/
import Derived.Test.YtdclfffjiokenaaDoorFrameAwake
import Derived.Deep.Slices
import Derived.Deep.Fields
import Derived.ChangeSame
import Derived.Deep.QuietTactic
import Derived.BigQuiet
import Derived.Deep.RegionWith
namespace Go.Proofs.YtdclfffjiokenaaDoor
open Go.RowKit Go.ChangeShapes Go.WideShapes Go.Deep
set_option linter.unusedVariables false

structure PtV where
  k : Nat
  s : ByteArray
def PtV.ok (x : PtV) : Prop := x.k < 256 ∧ x.s.size ≤ maxLen
def PtV.part (x : PtV) : PartV := ⟨1 + x.k % 3, x.s.data.toList⟩
/-- A Part lies at a place. -/
def PtAt (w : World) (a : Addr) (x : PtV) : Prop := w.cell? (a.add 0) = some (.int .u8 x.k) ∧ w.cell? (a.add 1) = some (.string x.s)
theorem part_cells {H : Type} {enc : TypeId × Value → H} {w : World} {base : Nat} {spare : Nat → Bool} {held : Bool} {fuel : Nat} {a : Addr} {cs : List Value} {x : DataW H × List MemPlace}
    (hc : w.cells? base a 2 = some cs) (h : DataW.trod enc Tryd.prog w base spare held fuel 60 cs = some x) : ∃ q : PtV, q.ok ∧ PtAt w a q := by
  obtain ⟨_, hcl, hat⟩ := World.cells?_some hc
  obtain ⟨xs, n, _, _, _, hxl, hf⟩ := DataW.trod_struct Tryd.underlying60 h
  match cs, hcl with
  | [c0, c1], _ =>
    have g0 := hf 0 _ rfl
    have g1 := hf 1 _ rfl
    have k0 : Tryd.prog.cellsOf 5 = 1 := by kernel_rfl
    have k1 : Tryd.prog.cellsOf 9 = 1 := by kernel_rfl
    match xs, hxl with
    | [y0, y1], _ =>
      have e0 : DataW.trod enc Tryd.prog w base spare held n 5 [c0] = some y0 := by simpa [k0] using g0
      have e1 : DataW.trod enc Tryd.prog w base spare held n 9 [c1] = some y1 := by simpa [k1] using g1
      obtain ⟨n0, r0, _, w0⟩ := DataW.trod_int Tryd.underlying5 e0
      obtain ⟨n1, r1, _, w1⟩ := DataW.trod_string Tryd.underlying9 e1
      simp only [List.cons.injEq, and_true] at r0 r1
      subst r0 r1
      obtain ⟨m0, rfl, b0⟩ := u8_nat w0
      exact ⟨⟨m0, n1⟩, ⟨b0, w1⟩, hat 0 (by decide), hat 1 (by decide)⟩
/-- The row of Parts. -/
theorem parts_open {H : Type} {enc : TypeId × Value → H} {w : World} {base : Nat} {spare : Nat → Bool} {held : Bool} {v : Value} {d : DataW H} {ps : List MemPlace}
    (hv : v.cells.toList = [v]) (h : DataW.Trod enc Tryd.prog w base spare held 22 v d ps) :
    ∃ (ao : Option Addr) (len cap : Nat) (f : Nat → PtV), v = .slice ao len cap ∧ len ≤ maxLen ∧ ∀ i, i < len → ∃ a, ao = some a ∧ (f i).ok ∧ PtAt w (a.add (i * 2)) (f i) := by
  obtain ⟨fuel, h⟩ := h
  rw [hv] at h
  rcases open_slice Tryd.underlying22 h with ⟨h0, _⟩ | ⟨a, len, cap, m, n, D, Pl, hcs, _, hlc, hcm, hm, _, hi⟩
  · exact ⟨none, 0, 0, fun _ => ⟨0, ⟨#[]⟩⟩, by simpa using h0, by decide, fun i hi => absurd hi (Nat.not_lt_zero i)⟩
  · have hk : Tryd.prog.cellsOf 60 = 2 := by kernel_rfl
    have hex : ∀ i, ∃ q : PtV, i < len → q.ok ∧ PtAt w (a.add (i * 2)) q := fun i => by
      by_cases hl : i < len
      · obtain ⟨cs', h1, h2⟩ := hi i (by rw [hm]; split <;> omega)
        rw [hk] at h1
        obtain ⟨q, hq⟩ := part_cells h1 h2
        exact ⟨q, fun _ => hq⟩
      · exact ⟨⟨0, ⟨#[]⟩⟩, fun h => absurd h hl⟩
    obtain ⟨f, hf⟩ := Classical.axiomOfChoice hex
    exact ⟨some a, len, cap, f, by simpa using hcs, by omega, fun i hi => ⟨a, rfl, hf i hi⟩⟩
theorem PtAt.lt {w : World} {a : Addr} {q : PtV} (h : PtAt w a q) : a.block < w.heap.size := by
  have h0 := h.1
  unfold World.cell? at h0
  rcases Nat.lt_or_ge a.block w.heap.size with h | h
  · exact h
  · simp [Addr.add, Array.getElem?_eq_none h] at h0
theorem PtAt.below {w w' : World} {a : Addr} {q : PtV} (h : PtAt w a q) (hb : Below w.heap.size w w') : PtAt w' a q := by
  have hl := h.lt
  obtain ⟨h0, h1⟩ := h
  exact ⟨by rw [hb.cell (p := a.add 0) hl]; exact h0, by rw [hb.cell (p := a.add 1) hl]; exact h1⟩
/-- The row that comes in. -/
structure Pts (w : World) (ao : Option Addr) (len : Nat) (f : Nat → PtV) : Prop where
  at_ : ∀ i, i < len → ∃ a, ao = some a ∧ (f i).ok ∧ PtAt w (a.add (i * 2)) (f i)
theorem Pts.below {w w' : World} {ao : Option Addr} {len : Nat} {f : Nat → PtV} (h : Pts w ao len f) (hb : Below w.heap.size w w') : Pts w' ao len f :=
  ⟨fun i hi => by obtain ⟨a, h1, h2, h3⟩ := h.at_ i hi; exact ⟨a, h1, h2, h3.below hb⟩⟩
def cost (f : Nat → PtV) : Nat → Nat
  | 0 => 0
  | k + 1 => cost f k + (40 + min 6000 (f k).s.size)
theorem cost_mono (f : Nat → PtV) {j k : Nat} (h : j ≤ k) : cost f j ≤ cost f k := by
  induction h with
  | refl => exact Nat.le_refl _
  | step _ ih => exact Nat.le_trans ih (by rw [cost]; omega)
theorem cost_len (f : Nat → PtV) (k : Nat) : 40 * k ≤ cost f k := by
  induction k with
  | zero => simp [cost]
  | succ k ih => rw [cost]; omega
def parts (f : Nat → PtV) (k : Nat) : List PartV := (List.range k).map fun i => (f i).part
theorem parts_succ (f : Nat → PtV) (k : Nat) : parts f (k + 1) = parts f k ++ [(f k).part] := by
  unfold parts; rw [List.range_succ, List.map_append]; rfl
theorem parts_length (f : Nat → PtV) (k : Nat) : (parts f k).length = k := by simp [parts]
theorem rowB_append (l m : List PartV) : rowB (l ++ m) = rowB l ++ rowB m := by simp [rowB]
theorem framesAt_append (q : Nat) (l m : List PartV) : framesAt q (l ++ m) = framesAt q l ++ framesAt (q + (rowB l).length) m := by
  induction l generalizing q with
  | nil => simp [framesAt, rowB]
  | cons x r ih =>
    simp only [List.cons_append, framesAt, rowB_cons, List.length_append, PartV.len]
    rw [ih, show q + (x.p.length + 9 + (rowB r).length) = q + 9 + x.p.length + (rowB r).length from by omega]
theorem framesAt_length (q : Nat) (l : List PartV) : (framesAt q l).length = l.length := by
  induction l generalizing q with
  | nil => rfl
  | cons x r ih => simp [framesAt, ih]
theorem small_of (f : Nat → PtV) (k : Nat) (h : cost f k < 6000) : ∀ i, i < k → (f i).s.size < 6000 := by
  intro i hi
  have h2 := cost_mono f (show i + 1 ≤ k from hi)
  rw [cost] at h2
  omega
theorem rowB_cost (f : Nat → PtV) (k : Nat) (h : cost f k < 6000) : (rowB (parts f k)).length + 31 * k ≤ cost f k := by
  induction k with
  | zero => simp [parts, rowB]
  | succ k ih =>
    have h1 := small_of f (k + 1) h k (by omega)
    rw [cost] at h ⊢
    have h2 := ih (by omega)
    have h3 : min 6000 (f k).s.size = (f k).s.size := by omega
    rw [parts_succ, rowB_append, List.length_append, h3]
    have : (rowB [(f k).part]).length = (f k).s.size + 9 := by
      rw [rowB_cons]; simp [rowB, PartV.len, PtV.part]
    omega
theorem part_ok {x : PtV} (h : x.s.size < 6000) : x.part.ok := by
  unfold PartV.ok PtV.part
  simp only [data_len]
  omega
theorem parts_ok (f : Nat → PtV) (k : Nat) (h : cost f k < 6000) : ∀ x ∈ parts f k, x.ok := by
  intro x hx
  obtain ⟨i, hi, rfl⟩ := List.mem_map.1 hx
  exact part_ok (small_of f k h i (List.mem_range.1 hi))
theorem framesAt_kind (q : Nat) (l : List PartV) (h : ∀ x ∈ l, x.ok) : ∀ x ∈ framesAt q l, x.k < 256 := by
  induction l generalizing q with
  | nil => intro x hx; simp [framesAt] at hx
  | cons y r ih =>
    intro x hx
    rcases List.mem_cons.1 hx with rfl | hx
    · obtain ⟨h1, h2, h3⟩ := h y (List.mem_cons_self ..)
      simp only []; omega
    · exact ih _ (fun z hz => h z (List.mem_cons_of_mem _ hz)) x hx
theorem makeV_of (k : Nat) (s : ByteArray) (h1 : 1 ≤ k) (h2 : k ≤ 3) (h3 : s.size ≤ 262144) : (makeV k s).1 = B (Fr.fr (UInt8.ofNat k) s.data.toList) := by
  unfold makeV
  rw [if_neg (by omega), if_neg (by omega)]
set_option maxRecDepth 20000 in
theorem long_any (w : World) (ao : Option Addr) (len cap : Nat) (f : Nat → PtV) (hl : len ≤ maxLen) (hf : Pts w ao len f) :
    Calls Tryd.prog 11 #[.slice ao len cap] w fun e w' => e = .returned (.bool (decide (6000 ≤ cost f len))) ∧ w = w' := by
  unfold maxLen at hl
  have HF := Kp.mk hf.at_
  clear hf
  obtain ⟨B, hB⟩ : ∃ B, decide (6000 ≤ cost f len) = B := ⟨_, rfl⟩
  rw [hB]
  have HB := Kp.mk hB
  clear hB
  go_enter Tryd.func11, Tryd.ntmps11
  go_wp2
  go_loop [3, 4] (fun n i => ∃ k : Nat, k ≤ len ∧ i = .int .i64 k ∧ n = .int .i64 (cost f k) ∧ cost f k < 12040) (fun _ i => len - (intOf i).toNat)
  case atStart => exact ⟨0, by omega, rfl, rfl, by simp [cost]⟩
  case round =>
    obtain ⟨k, hk, rfl, rfl, hc⟩ := hrel
    by_cases hkl : k < len
    · by_cases h6 : cost f k < 6000
      · obtain ⟨a, rfl, hok, hat⟩ := HF.out k hkl
        have hs := hok.2
        unfold maxLen at hs
        obtain ⟨_, c2⟩ := hat
        have c2 : w.cell? ⟨(a.add (k * 2)).block, (a.add (k * 2)).off + 1, none⟩ = some (.string (f k).s) := c2
        have HC : Kp (cost f (k + 1) = cost f k + (40 + min 6000 (f k).s.size)) := ⟨rfl⟩
        have t1 : decide ((cost f k : Int) < 6000) = true := by rw [decide_eq_true_eq]; omega
        clear hok
        generalize f k = q at c2 hs HC
        generalize cost f k = C at h6 hc HC t1
        have hmin : min 6000 (q.s.size : Int) = ((min 6000 q.s.size : Nat) : Int) := by omega
        have hmx : min 6000 q.s.size ≤ 6000 := Nat.min_le_left _ _
        generalize min 6000 q.s.size = m at hmin hmx HC
        go_wp2
        go_round
        case rel => exact ⟨k + 1, by omega, by go_num, congrArg (Value.int .i64) (by have := HC.out; omega), by rw [HC.out]; omega⟩
        case measure => simp [intOf]; omega
      · have HC : Kp (true = B) := ⟨by rw [← HB.out]; symm; rw [decide_eq_true_eq]; have := cost_mono f hk; omega⟩
        have t1 : decide ((cost f k : Int) < 6000) = false := by rw [decide_eq_false_iff_not]; omega
        have t2 : decide ((6000 : Int) ≤ (cost f k : Int)) = true := by rw [decide_eq_true_eq]; omega
        generalize cost f k = C at h6 hc t1 t2
        go_wp2
        go_ret
        exact ⟨ret_bool HC.out, rfl⟩
    · obtain rfl : k = len := by omega
      have HC : Kp (decide ((6000 : Int) ≤ (cost f k : Int)) = B) := ⟨by rw [← HB.out, Bool.eq_iff_iff, decide_eq_true_eq, decide_eq_true_eq]; omega⟩
      generalize cost f k = C at hc HC
      go_wp2
      go_ret
      exact ⟨ret_bool HC.out, rfl⟩
theorem infoRefF : (Tryd.prog.info? 40).map (fun i => (i.zero, i.size, i.bytes)) = some (some (.agg #[.int .u8 0, .string ⟨#[]⟩, .int .i64 0]), 3, 32) := by kernel_rfl
theorem parts_snoc (f : Nat → PtV) (k : Nat) : B (rowB (parts f k)) ++ B (Fr.fr (UInt8.ofNat (1 + (f k).k % 3)) (f k).s.data.toList) = B (rowB (parts f (k + 1))) := by
  rw [B_append, parts_succ, rowB_append]
  congr 2
  simp [rowB, PartV.b, PtV.part]
theorem frames_snoc (f : Nat → PtV) (k : Nat) : framesAt 0 (parts f (k + 1)) = framesAt 0 (parts f k) ++ [⟨1 + (f k).k % 3, (f k).s.data.toList, (rowB (parts f k)).length⟩] := by
  rw [parts_succ, framesAt_append]
  simp [framesAt, PtV.part]
set_option maxRecDepth 100000 in
set_option maxHeartbeats 2000000 in
theorem row_any (w : World) (ao : Option Addr) (len cap : Nat) (f : Nat → PtV) (hf : Pts w ao len f) (hc : cost f len < 6000) (ht : Tab w) :
    Calls Tryd.prog 14 #[.slice ao len cap] w fun e w' => ∃ v, e = .returned (.tuple #[.string (B (rowB (parts f len))), v]) ∧ RK 3 w' v len ((framesAt 0 (parts f len)).flatMap FrV.cells) ∧ (∀ k, blk v = some k → w.heap.size ≤ k) ∧ Below w.heap.size w w' := by
  have HF := Kp.mk hf
  have HT := Kp.mk ht
  have HC := Kp.mk hc
  have h40 := cost_len f len
  obtain ⟨i0, hi0, hi1, hi2, hi3⟩ := info_parts infoRefF
  have HI := Kp.mk (And.intro hi0 (And.intro hi1 (And.intro hi2 hi3)))
  have HSm := Kp.mk (small_of f len hc)
  have HRL : Kp (∀ k, k ≤ len → (B (rowB (parts f k))).size < 6000) := ⟨fun k hk => by
    have h1 := cost_mono f hk
    have h2 := rowB_cost f k (by omega)
    rw [B_size]; omega⟩
  have hlen : len < 150 := by omega
  clear hi0 hi1 hi2 hi3 hf ht hc h40
  go_enter Tryd.func14, Tryd.ntmps14
  go_wp2
  go_loopw [4, 5, 6] (fun s out i wr => ∃ k : Nat, k ≤ len ∧ i = .int .i64 k ∧ s = .string (B (rowB (parts f k))) ∧ RK 3 wr out k ((framesAt 0 (parts f k)).flatMap FrV.cells) ∧ (∀ k, blk out = some k → w.heap.size ≤ k) ∧ Below w.heap.size w wr)
    (fun _ _ i _ => len - (intOf i).toNat)
  case atStart => exact ⟨0, by omega, rfl, rfl, RK.nil _ _, fun k hk => by simp [blk] at hk, Below.refl _ _⟩
  case round =>
    obtain ⟨k, hk, rfl, rfl, hrow, hnew, hb⟩ := hrel
    have HRow := Kp.mk hrow
    have HNew := Kp.mk hnew
    have HBel := Kp.mk hb
    clear hrow hnew hb
    by_cases hkl : k < len
    · obtain ⟨a, rfl, hok, hat⟩ := (HF.out.below HBel.out).at_ k hkl
      have hs := HSm.out k hkl
      have hr1 := HRL.out k hk
      have hr2 := HRL.out (k + 1) hkl
      have hsn := parts_snoc f k
      have hfn := frames_snoc f k
      have HM := Kp.mk (fun w hw => made_any (1 + (f k).k % 3) (f k).s w (by omega) (by omega) hw)
      have hmk := makeV_of (1 + (f k).k % 3) (f k).s (by omega) (by omega) (by omega)
      rw [hmk] at HM
      have hk256 := hok.1
      have HZ : Kp ((rowB (parts f k)).length = (B (rowB (parts f k))).size) := ⟨(B_size _).symm⟩
      rw [HZ.out] at hfn
      generalize B (rowB (parts f k)) = S at *
      obtain ⟨S2, hS2⟩ : ∃ S2, B (rowB (parts f (k + 1))) = S2 := ⟨_, rfl⟩
      rw [hS2] at hsn hr2
      have HS2 := Kp.mk hS2
      clear hS2
      obtain ⟨c0, c1⟩ := hat
      obtain ⟨q, hq⟩ : ∃ q, f k = q := ⟨_, rfl⟩
      have HFQ := Kp.mk hq
      rw [hq] at hok hs hsn hfn HM hmk hk256 c0 c1
      clear hq
      obtain ⟨qk, qs⟩ := q
      simp only [] at *
      have c0 : wr.cell? (a.add (k * 2)) = some (.int .u8 qk) := c0
      have c1 : wr.cell? ⟨(a.add (k * 2)).block, (a.add (k * 2)).off + 1, none⟩ = some (.string qs) := c1
      generalize B (Fr.fr (UInt8.ofNat (1 + qk % 3)) qs.data.toList) = bb at *
      have hm1 : (qk : Int).tmod 3 = ((qk % 3 : Nat) : Int) := (Int.ofNat_tmod qk 3).symm
      have hm2 : 1 + ((qk % 3 : Nat) : Int) = ((1 + qk % 3 : Nat) : Int) := by omega
      have hm3 : 1 + qk % 3 < 256 := by omega
      generalize 1 + qk % 3 = kk at *
      generalize qk % 3 = km at *
      have hqb : B qs.data.toList = qs := by apply bytes_ext; rw [B_list]
      have HFN := Kp.mk hfn
      have HSN := Kp.mk hsn
      have HQ := Kp.mk hqb
      have HIN := Kp.mk (show Src 3 (wr.alloc (.cells #[.int .u8 kk, .string qs, .int .i64 S.size] 40)) (.slice (some ⟨wr.heap.size, 0, none⟩) 1 1) 1 [.int .u8 kk, .string qs, .int .i64 S.size] from src_one (heap_alloc_new _ _) rfl)
      have HRW := Kp.mk (HRow.out.alloc (.cells #[.int .u8 kk, .string qs, .int .i64 S.size] 40))
      have hpl : k + 1 ≤ maxLen := by unfold maxLen; omega
      have hpl2 : (k + 1) * 32 ≤ 140737488355328 := by omega
      have HPL := Kp.mk (And.intro hpl hpl2)
      have hcat : ¬ 9223372036854775807 < S.size + bb.size := by
        have := congrArg ByteArray.size hsn
        rw [ByteArray.size_append] at this
        omega
      have HATk : Kp (∀ W, Below w.heap.size w W → W.cell? ⟨(a.add (k * 2)).block, (a.add (k * 2)).off + 1, none⟩ = some (.string qs)) := ⟨fun W hW => by
        obtain ⟨a', he, _, _, h1⟩ := (HF.out.below hW).at_ k hkl
        obtain rfl := Option.some.inj he
        rw [HFQ.out] at h1
        exact h1⟩
      clear hfn hmk hqb hok hpl hpl2
      go_wp2_with (at_builtin; go_loud (refine wpList_append_src rfl _ _ 30 rfl HRW.out HIN.out 40 i0 _ 32 Tryd.underlying30 HI.out.1 HI.out.2.1 HI.out.2.2.1 HI.out.2.2.2 rfl (by decide) rfl rfl (by simp [Value.oneCell']) HPL.out.1 HPL.out.2 _ _ rfl rfl ?_; intro ao cap w3 k1 k2 k3; have K1 := Kp.mk k1; have K2 := Kp.mk ((HBel.out.alloc HBel.out.size _).grown k2 (by simp; have := HBel.out.size; omega) (fun j e => HNew.out j e)); have K3 := Kp.mk k3; have c5 := HATk.out _ K2.out; clear k1 k2 k3 c0 c1))
      refine (HM.out _ (HT.out.below K2.out)).mono ?_
      rintro e w4 ⟨rfl, b4⟩
      have B4 := Kp.mk (K2.out.trans (b4.mono K2.out.size))
      have K4 := Kp.mk (K1.out.below b4)
      clear b4
      go_wp2
      go_roundw
      case rel =>
        refine ⟨k + 1, by omega, by go_num, by rw [HS2.out], ?_, fun j hj => ?_, B4.out⟩
        · rw [HFN.out, List.flatMap_append]
          have := K4.out
          simpa [FrV.cells, HQ.out] using this
        · rcases K3.out j hj with h | h
          · exact HNew.out j h
          · have := HBel.out.size; simp at h; omega
      case measure => simp [intOf]; omega
    · obtain rfl : k = len := by omega
      go_wp2
      go_ret2
      exact ⟨_, rfl, HRow.out, HNew.out, HBel.out⟩
end Go.Proofs.YtdclfffjiokenaaDoor
