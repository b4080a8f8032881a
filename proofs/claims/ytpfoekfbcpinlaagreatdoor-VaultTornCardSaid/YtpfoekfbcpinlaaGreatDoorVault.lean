/- The examples, plainly; what Back leaves where one tape alone has loose bytes. -/
import Derived.Test.YtpfoekfbcpinlaaGreatDoorHeadLaw
import Derived.Deep.DrawnRows
import Derived.Test.YtpfoekfbcpinlaaGreatDoorDiskNil
import Derived.WalkSpells
namespace Go.Proofs.YtpfoekfbcpinlaaGreatDoor
open Go.RowKit
set_option linter.unusedVariables false

theorem backT_at (kl : Nat) (kf : Nat → Int) (tp : Nat → TapeV) : ∀ k j, j < k → (backT kl kf tp k).1 j = (backS kl kf (tp j) (backT kl kf tp j).2).1
  | 0, j, h => absurd h (Nat.not_lt_zero j)
  | k + 1, j, h => by
    show (if j = k then _ else (backT kl kf tp k).1 j) = _
    by_cases e : j = k
    · subst e; rw [if_pos rfl]
    · rw [if_neg e]; exact backT_at kl kf tp k j (by omega)
theorem backS_firm (kl : Nat) (kf : Nat → Int) (x : TapeV) (turn : Nat) (h : x.b.size = x.firm) : backS kl kf x turn = (x, turn) := if_pos h
theorem backT_turn0 (kl : Nat) (kf : Nat → Int) (tp : Nat → TapeV) : ∀ k, (∀ j, j < k → (tp j).b.size = (tp j).firm) → (backT kl kf tp k).2 = 0
  | 0, _ => rfl
  | k + 1, h => by
    show (backS kl kf (tp k) (backT kl kf tp k).2).2 = 0
    rw [backS_firm _ _ _ _ (h k (by omega))]
    exact backT_turn0 kl kf tp k (fun j hj => h j (by omega))
theorem backS_same {kl : Nat} {kf : Nat → Int} {x : TapeV} {turn turn' : Nat} (h : x.b.size = x.firm) : (backS kl kf x turn).1 = x := by rw [backS_firm _ _ _ _ h]
/-- Where one tape alone has loose bytes. -/
theorem back_one (D : DiskV) (kl : Nat) (kf : Nat → Int) (t : Nat) (ht : t < 32) (hf : ∀ k, k < 32 → k ≠ t → (D.tp k).b.size = (D.tp k).firm) :
    (∀ k, k < 32 → k ≠ t → (backV D kl kf).tp k = D.tp k) ∧ (backV D kl kf).tp t = (backS kl kf (D.tp t) 0).1 := by
  refine ⟨fun k hk hkt => ?_, ?_⟩
  · show (backT kl kf D.tp 32).1 k = D.tp k
    rw [backT_at _ _ _ _ _ hk]
    exact backS_same (turn' := 0) (hf k hk hkt)
  · show (backT kl kf D.tp 32).1 t = _
    rw [backT_at _ _ _ _ _ ht, backT_turn0 _ _ _ _ (fun j hj => hf j (by omega) (by omega))]
namespace Hd
def eH (n : Int) : HV := ⟨n, 0, 0, [2]⟩
theorem eH_may {n : Int} (h1 : 1 ≤ n) (h2 : n ≤ 1099511627776) : (eH n).may = true := by
  unfold HV.may HV.first HV.tapes eH
  simp [mayT, h1, h2]
theorem eH_enc {n : Nat} (h2 : n < 128) : (eH n).enc = [UInt8.ofNat n, 0, 0, 1, 2] := by
  unfold HV.enc eH logB
  have v0 : Var.vb 0 = [0] := by rw [Var.vb_lt (by decide)]; rfl
  have v1 : Var.vb 1 = [1] := by rw [Var.vb_lt (by decide)]; rfl
  have v2 : Var.vb 2 = [2] := by rw [Var.vb_lt (by decide)]; rfl
  simp [Var.vb_lt h2, v0, v1, v2]
theorem eH_len {n : Nat} (h2 : n < 128) : (eH n).enc.length = 5 := by rw [eH_enc h2]; rfl
def xD0 : DiskV := ⟨fun _ => blank, 100, false, 0, false⟩
def xD1 : DiskV := setT xD0 0 ⟨bytesV (eH 1), (bytesV (eH 1)).size⟩
def xD2 : DiskV := setT xD1 1 ⟨bytesV (eH 2), (bytesV (eH 2)).size⟩
def xD3 : DiskV := setT xD2 0 ⟨bytesV (eH 3), (bytesV (eH 3)).size⟩
def xDf : DiskV := { xD3 with counts := true, left := 2 }
def xD4 : DiskV := (putV xDf (eH 4)).2
def xD5 : DiskV := backV xD4 1 (fun _ => 13)
theorem ok_new {c : Int} (h0 : 0 ≤ c) (h1 : c ≤ 9223372036854775807) : Ok ⟨fun _ => blank, c, false, 0, false⟩ := by
  have hu : ∀ k, used (fun _ => blank) k = 0 := by
    intro k
    induction k with
    | zero => rfl
    | succ k ih => rw [used, ih]; rfl
  refine ⟨fun _ _ => Nat.le_refl _, fun _ _ => Nat.zero_le _, h0, h1, ?_, by show (-1 : Int) ≤ 0; decide, by show (0 : Int) ≤ _; decide, fun h => by cases h⟩
  show (used (fun _ => blank) 32 : Int) ≤ c
  rw [hu]; exact h0
theorem eb_size {n : Nat} (h2 : n < 128) : (bytesV (eH n)).size = 14 := by rw [bytes_size, eH_len h2]
theorem of_e {n : Int} (h1 : 1 ≤ n) (h2 : n ≤ 1099511627776) : ofV (bytesV (eH n)).data.toList = (eH n, true) := ofV_bytes (eH_may h1 h2)
theorem of_blank : ofV blank.b.data.toList = (HV.zero, false) := ofV_nil
theorem disk0 (c : Int) : diskV ⟨fun _ => blank, c, false, 0, false⟩ = (HV.zero, 0, false) := by
  show loadV (ofV blank.b.data.toList) (ofV blank.b.data.toList) = _
  rw [of_blank]
  exact loadV_none rfl rfl
theorem x0 : diskV xD0 = (HV.zero, 0, false) := disk0 100
theorem other_none {D : DiskV} {h : HV} {t : Nat} (hv : diskV D = (h, t, false)) : otherV D = 0 := by unfold otherV; rw [hv]; rfl
theorem other_is {D : DiskV} {h : HV} {t : Nat} (hv : diskV D = (h, t, true)) : otherV D = 1 - t := by unfold otherV; rw [hv]; rfl
theorem used0 : used xD0.tp 32 = 0 := by decide +kernel
theorem put1 : putV xD0 (eH 1) = (0, xD1) := by
  have ho := other_none x0
  have := putV_room (D := xD0) (eH_may (n := 1) (by decide) (by decide)) rfl rfl (by rw [used0, ho, show (eH 1).enc.length = 5 from eH_len (n := 1) (by decide)]; show (0 : Int) - (0 : Nat) + _ ≤ 100; decide)
  rw [this, ho]; rfl
theorem x1 : diskV xD1 = (eH 1, 0, true) := by
  show loadV (ofV (bytesV (eH 1)).data.toList) (ofV blank.b.data.toList) = _
  rw [of_e (by decide) (by decide), of_blank]
  exact loadV_left (by decide) (by decide)
theorem used1 : used xD1.tp 32 = 14 := by
  have h := used_setT xD0 0 ⟨bytesV (eH 1), (bytesV (eH 1)).size⟩ (by decide)
  have h0 : (xD0.tp 0).b.size = 0 := rfl
  have hs : (bytesV (eH 1)).size = 14 := eb_size (n := 1) (by decide)
  rw [used0, h0, hs] at h
  exact h
theorem put2 : putV xD1 (eH 2) = (0, xD2) := by
  have ho := other_is x1
  have := putV_room (D := xD1) (eH_may (n := 2) (by decide) (by decide)) rfl rfl (by rw [used1, ho, show (eH 2).enc.length = 5 from eH_len (n := 2) (by decide)]; show (14 : Int) - (0 : Nat) + _ ≤ 100; decide)
  rw [this, ho]; rfl
theorem x2 : diskV xD2 = (eH 2, 1, true) := by
  show loadV (ofV (bytesV (eH 1)).data.toList) (ofV (bytesV (eH 2)).data.toList) = _
  rw [of_e (by decide) (by decide), of_e (by decide) (by decide)]
  exact loadV_right (by decide) (by decide)
theorem used2 : used xD2.tp 32 = 28 := by
  have h := used_setT xD1 1 ⟨bytesV (eH 2), (bytesV (eH 2)).size⟩ (by decide)
  have h0 : (xD1.tp 1).b.size = 0 := rfl
  have hs : (bytesV (eH 2)).size = 14 := eb_size (n := 2) (by decide)
  rw [used1, h0, hs] at h
  exact h
theorem put3 : putV xD2 (eH 3) = (0, xD3) := by
  have ho := other_is x2
  have h0 : (xD2.tp 0).b.size = 14 := eb_size (n := 1) (by decide)
  have := putV_room (D := xD2) (eH_may (n := 3) (by decide) (by decide)) rfl rfl (by rw [used2, ho, show (eH 3).enc.length = 5 from eH_len (n := 3) (by decide), h0]; show (28 : Int) - (14 : Nat) + _ ≤ 100; decide)
  rw [this, ho]; rfl
theorem x3' (D : DiskV) (h : D.tp = xD3.tp) : diskV D = (eH 3, 0, true) := by
  unfold diskV
  rw [h]
  show loadV (ofV (bytesV (eH 3)).data.toList) (ofV (bytesV (eH 2)).data.toList) = _
  rw [of_e (by decide) (by decide), of_e (by decide) (by decide)]
  exact loadV_left (by decide) (by decide)
theorem x3 : diskV xD3 = (eH 3, 0, true) := x3' _ rfl
theorem failf : failV xD3 2 = (0, xDf) := by rfl
theorem xf : diskV xDf = (eH 3, 0, true) := x3' _ rfl
theorem used3 : used xD3.tp 32 = 28 := by
  have h := used_setT xD2 0 ⟨bytesV (eH 3), (bytesV (eH 3)).size⟩ (by decide)
  have h0 : (xD2.tp 0).b.size = 14 := eb_size (n := 1) (by decide)
  have hs : (bytesV (eH 3)).size = 14 := eb_size (n := 3) (by decide)
  rw [used2, h0, hs] at h
  have h' : used xD3.tp 32 + 14 = 28 + 14 := h
  omega
theorem put4 : (putV xDf (eH 4)).1 = 45 := by
  have ho : otherV xDf = 1 := other_is xf
  have hm := eH_may (n := 4) (by decide) (by decide)
  have hs : (bytesV (eH 4)).size = 14 := eb_size (n := 4) (by decide)
  unfold putV
  rw [if_neg (by simp [hm]), if_neg (show ¬ xDf.down = true by decide), ho]
  generalize bytesV (eH 4) = s at hs ⊢
  have ew : wipeV xDf (1 : Nat) = (0, setT { xDf with left := 1, down := false } 1 ⟨⟨#[]⟩, 0⟩) := by
    have : wipeV xDf (1 : Nat) = _ := op_eq xDf 1 0 _ _ rfl (by decide) rfl
    rw [this]; rfl
  have hu : used (setT { xDf with left := 1, down := false } 1 ⟨⟨#[]⟩, 0⟩).tp 32 = 14 := by
    have h := used_setT { xDf with left := 1, down := false } 1 ⟨⟨#[]⟩, 0⟩ (by decide)
    have h0 : (({ xDf with left := 1, down := false } : DiskV).tp 1).b.size = 14 := eb_size (n := 2) (by decide)
    have hu3 : used ({ xDf with left := 1, down := false } : DiskV).tp 32 = 28 := used3
    have hz : (⟨#[]⟩ : ByteArray).size = 0 := rfl
    have h' : used (setT { xDf with left := 1, down := false } 1 ⟨⟨#[]⟩, 0⟩).tp 32 + 14 = 28 + 0 := by rw [← h0, h, hu3]; rfl
    omega
  rw [ew]
  simp only [ne_eq, not_true_eq_false, if_false]
  generalize hD1 : setT { xDf with left := 1, down := false } 1 ⟨⟨#[]⟩, 0⟩ = D1 at hu
  have d1 : D1.down = false := by rw [← hD1]; rfl
  have f1 : failsV D1 = (false, { D1 with left := 0, down := false }) := by rw [← hD1]; rfl
  have t1 : D1.tp 1 = ⟨⟨#[]⟩, 0⟩ := by rw [← hD1]; exact setT_same _ _ _
  have c1 : D1.cap = 100 := by rw [← hD1]; rfl
  have ed : writeV D1 (1 : Nat) s = (0, setT { D1 with left := 0, down := false } 1 ⟨s, 0⟩) := by
    have hmay : writeMay D1 (D1.tp 1).b s = 0 := by
      unfold writeMay
      rw [t1, c1, hu, hs]
      rfl
    have : writeV D1 (1 : Nat) s = _ := op_eq D1 1 (writeMay D1 (D1.tp 1).b s) (fun x => ⟨x.b ++ s, x.firm⟩) (fun x => ⟨x.b ++ s, x.firm⟩) d1 (by decide) hmay
    rw [this, f1, t1]
    simp only [Bool.false_eq_true, if_false]
    rw [show (⟨#[]⟩ : ByteArray) ++ s = s from ByteArray.empty_append]
  rw [ed]
  simp only [not_true_eq_false, if_false]
  have cc : D1.counts = true := by rw [← hD1]; rfl
  generalize hD2 : setT { D1 with left := 0, down := false } 1 ⟨s, 0⟩ = D2
  have d2 : D2.down = false := by rw [← hD2]; rfl
  have f2 : (failsV D2).1 = true := by
    rw [← hD2]
    unfold failsV
    have c2 : (setT { D1 with left := 0, down := false } 1 ⟨s, 0⟩).counts = true := cc
    rw [if_neg (by rw [c2]; decide)]
    rfl
  have es : syncV D2 (1 : Nat) = _ := op_eq D2 1 0 _ _ d2 (by decide) rfl
  rw [es, f2]
  rfl
theorem xf_down : xDf.down = false := rfl
theorem ok_x0 : Ok xD0 := ok_new (by decide) (by decide)
theorem ok_x1 : Ok xD1 := by have := putV_ok ok_x0 (eH 1); rwa [put1] at this
theorem ok_x2 : Ok xD2 := by have := putV_ok ok_x1 (eH 2); rwa [put2] at this
theorem ok_x3 : Ok xD3 := by have := putV_ok ok_x2 (eH 3); rwa [put3] at this
theorem ok_xf : Ok xDf := by have := ok_x3.failV 2 (by decide); rwa [failf] at this
theorem ok_x4 : Ok xD4 := putV_ok ok_xf (eH 4)
theorem ok_x5 : Ok xD5 := ok_x4.back _ _
theorem x5 : diskV xD5 = (eH 3, 0, true) := by
  have ho : otherV xDf = 1 := other_is xf
  have hm := eH_may (n := 4) (by decide) (by decide)
  obtain ⟨h1, _, h2⟩ := putV_out hm xf_down ok_xf
  rw [ho] at h1 h2
  have hf : ∀ k, k < 32 → k ≠ 1 → (xD4.tp k).b.size = (xD4.tp k).firm := fun k hk hk1 => by
    have : xD4.tp k = xDf.tp k := h1 k hk1
    rw [this]
    show (xD3.tp k).b.size = (xD3.tp k).firm
    by_cases h0 : k = 0
    · subst h0; rfl
    · have : xD3.tp k = blank := by
        show (setT xD2 0 _).tp k = blank
        rw [setT_other _ _ _ _ h0]
        show (setT xD1 1 _).tp k = blank
        rw [setT_other _ _ _ _ hk1]
        show (setT xD0 0 _).tp k = blank
        rw [setT_other _ _ _ _ h0]
        rfl
      rw [this]; rfl
  obtain ⟨b1, b2⟩ := back_one xD4 1 (fun _ => 13) 1 (by decide) hf
  have e0 : xD5.tp 0 = ⟨bytesV (eH 3), (bytesV (eH 3)).size⟩ := (b1 0 (by decide) (by decide)).trans (h1 0 (by decide))
  have hx : ofV (xD5.tp 0).b.data.toList = (eH 3, true) := by rw [e0]; exact of_e (by decide) (by decide)
  have hy : (ofV (xD5.tp 1).b.data.toList).1.gen ≤ 3 := by
    have e1 : xD5.tp 1 = (backS 1 (fun _ => 13) (xD4.tp 1) 0).1 := b2
    rw [e1]
    have hd : xD4.tp 1 = ⟨bytesV (eH 2), (bytesV (eH 2)).size⟩ ∨ xD4.tp 1 = ⟨bytesV (eH 4), 0⟩ := by
      rcases h2 with ⟨_, _, h2⟩ | ⟨h2, _⟩ | ⟨h2, _⟩
      · rcases h2 with h2 | h2
        · exact .inl h2
        · exact .inr h2
      · rw [put4] at h2; exact absurd h2 (by decide)
      · rw [put4] at h2; exact absurd h2 (by decide)
    rcases hd with h | h
    · rw [h, backS_same (turn' := 0) rfl]
      rw [show ofV (bytesV (eH 2)).data.toList = (eH 2, true) from of_e (by decide) (by decide)]
      decide
    · have hs : (bytesV (eH 4)).size = 14 := eb_size (n := 4) (by decide)
      have hb : (backS 1 (fun _ => 13) ⟨bytesV (eH 4), 0⟩ 0).1 = ⟨(bytesV (eH 4)).extract 0 13, 13⟩ := by
        have hn : backN 1 (fun _ => 13) ⟨bytesV (eH 4), 0⟩ 0 = 13 := by
          unfold backN
          rw [if_pos (by decide)]
          show keepN 13 ((bytesV (eH 4)).size - 0) = 13
          rw [hs]
          decide
        unfold backS
        rw [if_neg (show ¬ (bytesV (eH 4)).size = 0 by omega), hn]
      rw [h, hb, ofV_torn hm (by omega)]
      decide
  unfold diskV
  have := loadV_left (x := ofV (xD5.tp 0).b.data.toList) (y := ofV (xD5.tp 1).b.data.toList) (by rw [hx]; decide) (by rw [hx]; exact hy)
  rw [this, hx]
end Hd
end Go.Proofs.YtpfoekfbcpinlaaGreatDoor
/- The examples that each statement of chapter 9 asks: the walk. -/
namespace Go.Proofs.YtpfoekfbcpinlaaGreatDoor
open Go.RowKit
set_option linter.unusedVariables false

def oneQ (b : Nat) (n : Int) : HdV := ⟨n, 0, 0, some ⟨b, 0, none⟩, 1, 1, fun _ => 2⟩
theorem oneQ_hv (b : Nat) (n : Int) : (oneQ b n).hv = Hd.eH n := rfl
/-- The example's head lies in the block b + 1, its row in the block b. -/
structure OneS (w W : World) (b : Nat) (n : Int) : Prop where
  row : W.heap[b]? = some (.cells #[.int .i64 2] 3 (0, 0))
  one : W.heap[b + 1]? = some (.cells #[.int .i64 n, .int .i64 0, .int .i64 0, .slice (some ⟨b, 0, none⟩) 1 1] 38 (0, 0))
  below : Below b w W
section
variable {w W W' : World} {b g : Nat} {n : Int}
theorem OneS.lt (h : OneS w W b n) : b + 1 < W.heap.size := lt_of_block' h.one
theorem OneS.at' (h : OneS w W b n) : HdAt W (oneQ b n) := by
  refine ⟨(by show 1 + 1 ≤ maxLen; decide), (by show (1 + 1) * 8 ≤ 140737488355328; decide), .inr ⟨_, rfl⟩, fun W' hW j hj => ⟨_, rfl, ?_⟩⟩
  have hj' : j = 0 := by change j < 1 at hj; omega
  subst hj'
  exact cell_of_row _ _ _ _ _ _ ((hW.block b (by have := h.lt; omega)).trans h.row)
theorem OneS.next (h : OneS w W b n) (hb : Below W.heap.size W W') : OneS w W' b n := by
  have hl := h.lt
  exact ⟨(hb.block b (by omega)).trans h.row, (hb.block (b + 1) (by omega)).trans h.one, h.below.trans (hb.mono (by omega))⟩
theorem OneS.chg (h : OneS w W b n) (c : Chg W W' g) (hg : b + 1 < g) : OneS w W' b n := by
  have hl := h.lt
  exact ⟨(c.block b (by omega) (fun e => by cases e; omega)).trans h.row, (c.block (b + 1) (by omega) (fun e => by cases e; omega)).trans h.one, c.below h.below (by omega) (by omega)⟩
theorem OneS.gen (h : OneS w W b n) (m : Int) : OneS w (W.setCell ⟨b + 1, 0, none⟩ (.int .i64 m)) b m := by
  have hl := h.lt
  exact ⟨(Below.heap_setCell W ⟨b + 1, 0, none⟩ _ b (by show b ≠ b + 1; omega)).trans h.row, heap_setCell_same W (b + 1) 0 _ _ _ h.one, h.below.setCell (p := ⟨b + 1, 0, none⟩) (by show b ≤ b + 1; omega) _⟩
end
end Go.Proofs.YtpfoekfbcpinlaaGreatDoor
/- Heads that come in, as data that can be read. -/
namespace Go.Proofs.YtpfoekfbcpinlaaGreatDoor
open Go.RowKit Go.ChangeShapes Go.WideShapes Go.Deep
set_option linter.unusedVariables false

set_option maxRecDepth 100000 in
theorem ints_open {H : Type} {enc : TypeId × Value → H} {w : World} {base : Nat} {spare : Nat → Bool} {held : Bool} {fuel : Nat} {c : Value} {x : DataW H × List MemPlace} (h : DataW.trod enc Tryz.prog w base spare held fuel 36 [c] = some x) :
    ∃ (ko : Option Addr) (kl kc : Nat) (kf : Nat → Int), c = .slice ko kl kc ∧ kl ≤ maxLen ∧ ((ko = none ∧ kl = 0 ∧ kc = 0) ∨ ∃ a, ko = some a) ∧ IntsAt w ko kl kf ∧ ∀ j, j < kl → i64 (kf j) := by
  rcases open_slice Tryz.underlying36 h with ⟨h0, _⟩ | ⟨a, len, cap, m, n, D, Pl, hcs, _, hlc, hcm, hm, _, hi⟩
  · exact ⟨none, 0, 0, fun _ => 0, by simpa using h0, by decide, .inl ⟨rfl, rfl, rfl⟩, fun W _ i hi => absurd hi (Nat.not_lt_zero i), fun i hi => absurd hi (Nat.not_lt_zero i)⟩
  · have hk : Tryz.prog.cellsOf 3 = 1 := by kernel_rfl
    have hex : ∀ i, ∃ q : Int, i < len → w.cell? (a.add i) = some (.int .i64 q) ∧ i64 q := fun i => by
      by_cases hl : i < len
      · obtain ⟨cs', h1, h2⟩ := hi i (by rw [hm]; split <;> omega)
        rw [hk] at h1
        obtain ⟨_, hcl, hat⟩ := World.cells?_some h1
        match cs', hcl with
        | [z], _ =>
          obtain ⟨n0, r0, _, w0⟩ := DataW.trod_int Tryz.underlying3 h2
          simp only [List.cons.injEq, and_true] at r0
          subst r0
          refine ⟨n0, fun _ => ⟨?_, wf_i64 w0⟩⟩
          have := hat 0 (by decide)
          rw [add_mul_one] at this
          exact this
      · exact ⟨0, fun h => absurd h hl⟩
    obtain ⟨kf, hf⟩ := Classical.axiomOfChoice hex
    exact ⟨some a, len, cap, kf, by simpa using hcs, by omega, .inr ⟨_, rfl⟩, fun W hW i hi => ⟨a, rfl, cell_below (hf i hi).1 hW⟩, fun i hi => (hf i hi).2⟩
/-- A head that came in. -/
structure HdIn (w : World) (q : HdV) : Prop where
  ok : q.ok
  nil : (q.lo = none ∧ q.ll = 0 ∧ q.lc = 0) ∨ ∃ a, q.lo = some a
  row : IntsAt w q.lo q.ll q.lf
theorem HdIn.below {w W : World} {q : HdV} (h : HdIn w q) (hb : Below w.heap.size w W) : HdIn W q := ⟨h.ok, h.nil, h.row.below hb⟩
theorem HdIn.at' {w : World} {q : HdV} (h : HdIn w q) (hl : q.ll ≤ 100) : HdAt w q := ⟨by unfold maxLen; omega, by omega, h.nil, h.row⟩
set_option maxRecDepth 100000 in
theorem head_open {H : Type} {enc : TypeId × Value → H} {w : World} {base : Nat} {spare : Nat → Bool} {held : Bool} {c0 c1 c2 c3 : Value} {x : DataW H × List MemPlace} {fuel : Nat}
    (h : DataW.trod enc Tryz.prog w base spare held fuel 38 [c0, c1, c2, c3] = some x) : ∃ q : HdV, Value.agg #[c0, c1, c2, c3] = q.v ∧ HdIn w q := by
  obtain ⟨xs, n, _, _, _, hxl, hf⟩ := DataW.trod_struct Tryz.underlying38 h
  have g0 := hf 0 _ rfl
  have g1 := hf 1 _ rfl
  have g2 := hf 2 _ rfl
  have g3 := hf 3 _ rfl
  have k_int : Tryz.prog.cellsOf 3 = 1 := by kernel_rfl
  have k_i64 : Tryz.prog.cellsOf 2 = 1 := by kernel_rfl
  have k_ints : Tryz.prog.cellsOf 36 = 1 := by kernel_rfl
  match xs, hxl with
  | [y0, y1, y2, y3], _ =>
    have e0 : DataW.trod enc Tryz.prog w base spare held n 2 [c0] = some y0 := by simpa [k_int, k_i64, k_ints] using g0
    have e1 : DataW.trod enc Tryz.prog w base spare held n 2 [c1] = some y1 := by simpa [k_int, k_i64, k_ints] using g1
    have e2 : DataW.trod enc Tryz.prog w base spare held n 3 [c2] = some y2 := by simpa [k_int, k_i64, k_ints] using g2
    have e3 : DataW.trod enc Tryz.prog w base spare held n 36 [c3] = some y3 := by simpa [k_int, k_i64, k_ints] using g3
    obtain ⟨n0, r0, _, w0⟩ := DataW.trod_int Tryz.underlying2 e0
    obtain ⟨n1, r1, _, w1⟩ := DataW.trod_int Tryz.underlying2 e1
    obtain ⟨n2, r2, _, w2⟩ := DataW.trod_int Tryz.underlying3 e2
    obtain ⟨ko, kl, kc, kf, r3, hkl, hs, hk, h64⟩ := ints_open e3
    simp only [List.cons.injEq, and_true] at r0 r1 r2
    subst r0 r1 r2 r3
    exact ⟨⟨n0, n1, n2, ko, kl, kc, kf⟩, rfl, ⟨wf_i64 w0, wf_i64 w1, wf_i64 w2, hkl, h64⟩, hs, hk⟩
set_option maxRecDepth 100000 in
theorem head_param {H : Type} {enc : TypeId × Value → H} {w : World} {b : Nat} {v : Value} {d : DataW H} {ps : List MemPlace} (hv : Value.okWide Tryz.prog w .any b 38 v) (hV : DataW.Trod enc Tryz.prog w 0 (fun _ => true) true 38 v d ps) : ∃ q : HdV, v = q.v ∧ HdIn w q := by
  obtain ⟨cs, rfl, hcs⟩ := Go.WideShapes.okWide_struct Tryz.underlying38 hv
  have h4 : cs.size = 4 := hcs.trans (by kernel_rfl)
  obtain ⟨c0, c1, c2, c3, rfl⟩ : ∃ c0 c1 c2 c3, cs = #[c0, c1, c2, c3] := by
    obtain ⟨l⟩ := cs
    match l, h4 with
    | [x0, x1, x2, x3], _ => exact ⟨x0, x1, x2, x3, rfl⟩
  obtain ⟨fuel, hV⟩ := hV
  exact head_open (show DataW.trod enc Tryz.prog w 0 (fun _ => true) true fuel 38 [c0, c1, c2, c3] = some (d, ps) from hV)
end Go.Proofs.YtpfoekfbcpinlaaGreatDoor
/- The walks of the reference's Same, Uses, Free. -/
namespace Go.Proofs.YtpfoekfbcpinlaaGreatDoor
open Go.RowKit
set_option linter.unusedVariables false

set_option maxRecDepth 20000 in
set_option maxHeartbeats 2000000 in
theorem Free_own (q : HdV) (w : World) (hl : q.ll ≤ maxLen) (hf : IntsAt w q.lo q.ll q.lf) :
    Calls Tryz.prog 69 #[q.v] w fun e w' => ∃ ao n cap g, e = .returned (.slice ao n cap) ∧ rowI g n = q.hv.free ∧ RK 1 w' (.slice ao n cap) n (numL g n) ∧ (∀ j, blk (.slice ao n cap) = some j → w.heap.size ≤ j) ∧ Below w.heap.size w w' := by
  have HU := Kp.mk (fun W (hW : Below w.heap.size w W) (t : Int) => Uses_any q t W hl (hf.below hW))
  obtain ⟨gen, base, snap, lo, ll, lc, lf⟩ := q
  unfold Hd.HV.free
  generalize (HdV.hv ⟨gen, base, snap, lo, ll, lc, lf⟩).uses = U at HU ⊢
  have HFK : Kp (Hd.R.filter (fun t => !U t) = FK U 30) := ⟨rfl⟩
  rw [HFK.out]
  unfold HdV.v at HU ⊢
  clear hf hl HFK
  simp only [] at HU ⊢
  have hbx := heap_alloc_new w (.cells #[.int .i64 gen, .int .i64 base, .int .i64 snap, .slice lo ll lc] 38)
  have hb1 : Below w.heap.size w (w.alloc (.cells #[.int .i64 gen, .int .i64 base, .int .i64 snap, .slice lo ll lc] 38)) := (Below.refl _ _).alloc (Nat.le_refl _) _
  have hz1 : (w.alloc (.cells #[.int .i64 gen, .int .i64 base, .int .i64 snap, .slice lo ll lc] 38)).heap.size = w.heap.size + 1 := by simp
  obtain ⟨i0, hi0, hi1, hi2, hi3⟩ := info_parts infoInt
  have HI := Kp.mk (And.intro hi0 (And.intro hi1 (And.intro hi2 hi3)))
  clear hi0 hi1 hi2 hi3
  go_enter Tryz.func69, Tryz.ntmps69
  go_wp2
  obtain ⟨w1, hw1⟩ : ∃ w1, w.alloc (.cells #[.int .i64 gen, .int .i64 base, .int .i64 snap, .slice lo ll lc] 38) = w1 := ⟨_, rfl⟩
  rw [hw1] at hbx hb1 hz1 ⊢
  have B1 := Kp.mk hb1
  have HKeep : Kp (∀ W, Below w1.heap.size w1 W → W.cell? ⟨w.heap.size, 0, none⟩ = some (.int .i64 gen) ∧ W.cell? ⟨w.heap.size, 1, none⟩ = some (.int .i64 base) ∧ W.cell? ⟨w.heap.size, 2, none⟩ = some (.int .i64 snap) ∧ W.cell? ⟨w.heap.size, 3, none⟩ = some (.slice lo ll lc)) := ⟨fun W hW => cells4 ((hW.block _ (by omega)).trans hbx)⟩
  clear hbx hb1 hz1 hw1
  generalize hbb : w.heap.size = b at HKeep ⊢
  go_loopw [3, 4] (fun o i wr => ∃ k : Nat, k ≤ 30 ∧ i = .int .i64 ((k : Int) + 2) ∧ RK 1 wr o (FK U k).length ((FK U k).map fun x => Value.int .i64 x) ∧ (∀ j, blk o = some j → w1.heap.size ≤ j) ∧ Below w1.heap.size w1 wr) (fun _ i _ => 32 - (intOf i).toNat)
  case atStart => exact ⟨0, by omega, rfl, RK.nil 1 _, fun j h => by simp [blk] at h, Below.refl _ _⟩
  case round =>
    obtain ⟨k, hk, rfl, hr, hnew, hb⟩ := hrel
    obtain ⟨ao, cp, rfl, _, _⟩ := hr.len
    have HR := Kp.mk hr
    have HN := Kp.mk hnew
    have HB := Kp.mk hb
    clear hr hnew hb
    by_cases hk2 : k < 30
    · obtain ⟨k0, k1, k2, k3⟩ := HKeep.out _ HB.out
      have i1 : decide ((k : Int) + 2 < 32) = true := by rw [decide_eq_true_eq]; omega
      have n1 : IntKind.i64.wrap ((k : Int) + 2 + 1) = (k : Int) + 2 + 1 := by rw [IntKind.wrap_i64]; omega
      have HUk := Kp.mk (HU.out _ (B1.out.trans (HB.out.mono B1.out.size)) ((k : Int) + 2))
      have HFS := Kp.mk (FK_succ U k)
      have HFL := Kp.mk (FK_len U k)
      cases hu : U ((k : Int) + 2)
      · rw [hu] at HUk HFS
        clear hu
        go_wp2_with fail
        refine HUk.out.mono ?_
        rintro e w5 ⟨rfl, b5⟩
        have B5 := Kp.mk (HB.out.trans (b5.mono HB.out.size))
        have R5 := Kp.mk ((HR.out.below b5).alloc (.cells #[.int .i64 ((k : Int) + 2)] 3))
        clear b5 k0 k1 k2 k3
        have HIN := Kp.mk (src_one (heap_alloc_new w5 (.cells #[.int .i64 ((k : Int) + 2)] 3)) rfl)
        have HLM : Kp ((FK U k).length + 1 ≤ maxLen ∧ ((FK U k).length + 1) * 8 ≤ 140737488355328) := ⟨by have := HFL.out; unfold maxLen; omega⟩
        go_wp2_with (at_builtin; go_loud (refine wpList_append_src rfl _ _ 36 rfl R5.out HIN.out 3 i0 _ 8 Tryz.underlying36 HI.out.1 HI.out.2.1 HI.out.2.2.1 HI.out.2.2.2 rfl (by decide) rfl rfl (by simp [Value.oneCell']) HLM.out.1 HLM.out.2 _ _ rfl rfl ?_; intro ao2 cap2 w6 k1 k2 k3; have K1 := Kp.mk k1; have K2 := Kp.mk ((B5.out.alloc B5.out.size _).grown k2 (by simp; have := B5.out.size; omega) (fun j e => HN.out j e)); have K3 : Kp (∀ j, blk (.slice ao2 ((FK U k).length + 1) cap2) = some j → w1.heap.size ≤ j) := ⟨fun j e => (k3 j e).elim (fun h => HN.out j h) (fun h => by simp at h; have := B5.out.size; omega)⟩; clear k1 k2 k3))
        go_roundw
        case rel => exact ⟨k + 1, by omega, by go_num, by rw [HFS.out]; simpa using K1.out, K3.out, K2.out⟩
        case measure => simp [intOf]; omega
      · rw [hu] at HUk HFS
        clear hu
        go_wp2_with fail
        refine HUk.out.mono ?_
        rintro e w5 ⟨rfl, b5⟩
        have B5 := Kp.mk (HB.out.trans (b5.mono HB.out.size))
        have R5 := Kp.mk (HR.out.below b5)
        clear b5 k0 k1 k2 k3
        go_wp2
        go_roundw
        case rel => exact ⟨k + 1, by omega, by go_num, by rw [HFS.out]; simpa using R5.out, HN.out, B5.out⟩
        case measure => simp [intOf]; omega
    · obtain rfl : k = 30 := by omega
      obtain ⟨g, hg⟩ := exists_row (FK U 30) (FK U 30).length rfl
      have HG := Kp.mk hg
      have HIA : Kp (RK 1 wr (.slice ao (FK U 30).length cp) (FK U 30).length (numL g (FK U 30).length)) := ⟨by rw [numC_numL hg]; exact HR.out⟩
      have HNw : Kp (∀ j, blk (.slice ao (FK U 30).length cp) = some j → w.heap.size ≤ j) := ⟨fun j hj => by have := HN.out j hj; have := B1.out.size; omega⟩
      clear hg
      go_wp2
      go_ret
      exact ⟨ao, _, cp, g, by trivial, HG.out, HIA.out, HNw.out, B1.out.trans (HB.out.mono B1.out.size)⟩
end Go.Proofs.YtpfoekfbcpinlaaGreatDoor
/- The walks of the reference's Same, May. -/
namespace Go.Proofs.YtpfoekfbcpinlaaGreatDoor
open Go.RowKit
set_option linter.unusedVariables false

set_option maxRecDepth 20000 in
set_option maxHeartbeats 2000000 in
theorem rSame_any (q p : HdV) (w : World) (hq : HdAt w q) (hp : HdAt w p) :
    Calls Tryz.prog 24 #[q.v, p.v] w fun e w' => e = .returned (.bool (Hd.sameB q.hv p.hv)) ∧ Below w.heap.size w w' := by
  obtain ⟨ga, ba, sa, loa, lla, lca, lfa⟩ := q
  obtain ⟨gb, bb, sb, lob, llb, lcb, lfb⟩ := p
  have HV : Kp (Hd.sameB (HdV.hv ⟨ga, ba, sa, loa, lla, lca, lfa⟩) (HdV.hv ⟨gb, bb, sb, lob, llb, lcb, lfb⟩) = (decide (ga = gb) && (decide (ba = bb) && (decide (sa = sb) && decide (rowI lfa lla = rowI lfb llb))))) := ⟨rfl⟩
  rw [HV.out]
  have hla := hq.len
  have hlb := hp.len
  unfold maxLen at hla hlb
  simp only [] at hla hlb
  have HB := Kp.mk (((Below.refl w.heap.size w).alloc (Nat.le_refl _) (.cells #[.int .i64 ga, .int .i64 ba, .int .i64 sa, .slice loa lla lca] 38)).alloc (by simp) (.cells #[.int .i64 gb, .int .i64 bb, .int .i64 sb, .slice lob llb lcb] 38))
  have hxa := heap_first w (.cells #[.int .i64 ga, .int .i64 ba, .int .i64 sa, .slice loa lla lca] 38) (.cells #[.int .i64 gb, .int .i64 bb, .int .i64 sb, .slice lob llb lcb] 38)
  have hxb := heap_second w (.cells #[.int .i64 ga, .int .i64 ba, .int .i64 sa, .slice loa lla lca] 38) (.cells #[.int .i64 gb, .int .i64 bb, .int .i64 sb, .slice lob llb lcb] 38)
  have HXa := Kp.mk hxa
  have HXb := Kp.mk hxb
  have HRa := Kp.mk (hq.row _ HB.out)
  have HRb := Kp.mk (hp.row _ HB.out)
  unfold HdV.v
  simp only [] at HRa HRb ⊢
  have q1 : ∀ o o2 (j : Nat), ((w.alloc o).alloc o2).cell? ⟨w.heap.size, j, none⟩ = (w.alloc o).cell? ⟨w.heap.size, j, none⟩ := fun o o2 j => by rw [World.cell?_alloc_lt _ _ _ (by simp)]
  clear HV hq hp hxa hxb
  by_cases c0 : ga = gb
  rotate_left 1
  · rw [decide_eq_false c0, Bool.false_and]
    have t0 : (ga != gb) = true := by rw [bne_iff_ne]; exact c0
    clear c0
    go_enter Tryz.func24, Tryz.ntmps24
    go_wp2
    go_ret
    exact ⟨by trivial, HB.out⟩
  subst c0
  rw [decide_eq_true rfl, Bool.true_and]
  by_cases c1 : ba = bb
  rotate_left 1
  · rw [decide_eq_false c1, Bool.false_and]
    have t1 : (ba != bb) = true := by rw [bne_iff_ne]; exact c1
    clear c1
    go_enter Tryz.func24, Tryz.ntmps24
    go_wp2
    go_ret
    exact ⟨by trivial, HB.out⟩
  subst c1
  rw [decide_eq_true rfl, Bool.true_and]
  by_cases c2 : sa = sb
  rotate_left 1
  · rw [decide_eq_false c2, Bool.false_and]
    have t2 : (sa != sb) = true := by rw [bne_iff_ne]; exact c2
    clear c2
    go_enter Tryz.func24, Tryz.ntmps24
    go_wp2
    go_ret
    exact ⟨by trivial, HB.out⟩
  subst c2
  rw [decide_eq_true rfl, Bool.true_and]
  by_cases c3 : lla = llb
  rotate_left 1
  · rw [decide_eq_false (fun h => c3 (rowI_eq.1 h).1)]
    have t3 : ((lla : Int) != (llb : Int)) = true := by rw [bne_iff_ne]; omega
    go_enter Tryz.func24, Tryz.ntmps24
    go_wp2
    go_ret
    exact ⟨by trivial, HB.out⟩
  subst c3
  have HD : Kp (decide (rowI lfa lla = rowI lfb lla) = decide (∀ j, j < lla → lfa j = lfb j)) := ⟨by rw [Bool.eq_iff_iff, decide_eq_true_eq, decide_eq_true_eq, rowI_eq]; simp⟩
  rw [HD.out]
  obtain ⟨R, hR⟩ : ∃ R, decide (∀ j, j < lla → lfa j = lfb j) = R := ⟨_, rfl⟩
  rw [hR]
  have HR := Kp.mk hR
  clear hR HD
  go_enter Tryz.func24, Tryz.ntmps24
  go_wp2
  clear q1
  generalize (w.alloc (.cells #[.int .i64 ga, .int .i64 ba, .int .i64 sa, .slice loa lla lca] 38)).alloc (.cells #[.int .i64 ga, .int .i64 ba, .int .i64 sa, .slice lob lla lcb] 38) = w1 at *
  obtain ⟨y0, y1, y2, y3⟩ := cells4 HXa.out
  obtain ⟨z0, z1, z2, z3⟩ := cells4 HXb.out
  go_loopw [5] (fun i wr => ∃ k md : Nat, k ≤ lla ∧ i = .int .i64 k ∧ (∀ j, j < k → lfa j = lfb j) ∧ wr = w1.drewN md) (fun i _ => lla - (intOf i).toNat)
  case atStart => exact ⟨0, 0, by omega, rfl, fun j hj => absurd hj (Nat.not_lt_zero j), rfl⟩
  case round =>
    obtain ⟨k, md, hk, rfl, hno, rfl⟩ := hrel
    have HNo := Kp.mk hno
    clear hno
    by_cases hkl : k < lla
    · obtain ⟨a, rfl, hc⟩ := HRa.out k hkl
      obtain ⟨b, rfl, hd⟩ := HRb.out k hkl
      have hk0 : (0 : Int) ≤ (k : Int) := by omega
      have hk1 : (k : Int) < (lla : Int) := by omega
      by_cases he : lfa k = lfb k
      · have HE : Kp (∀ j, j < k + 1 → lfa j = lfb j) := ⟨fun j hj => by
          by_cases h : j < k
          · exact HNo.out j h
          · obtain rfl : j = k := by omega
            exact he⟩
        rw [he] at hc
        clear he
        generalize lfb k = u at hc hd
        go_wp2_with fail
        go_quiet (fail)
        go_wp2
        go_roundw
        case rel => exact ⟨k + 1, _, by omega, by go_num, HE.out, rfl⟩
        case measure => simp [intOf]; omega
      · have HV : Kp (R = false) := ⟨by rw [← HR.out]; exact decide_eq_false fun h => he (h k hkl)⟩
        have he' : (lfa k != lfb k) = true := by rw [bne_iff_ne]; exact he
        clear he
        generalize lfa k = u at hc he'
        generalize lfb k = v at hd he'
        go_wp2_with fail
        go_quiet (fail)
        go_wp2
        go_ret
        exact ⟨ret_bool HV.out.symm, ⟨HB.out.os, HB.out.tape, HB.out.output, HB.out.size, HB.out.block⟩⟩
    · obtain rfl : k = lla := by omega
      have HV : Kp (R = true) := ⟨by rw [← HR.out]; exact decide_eq_true HNo.out⟩
      go_wp2
      go_ret
      exact ⟨ret_bool HV.out.symm, ⟨HB.out.os, HB.out.tape, HB.out.output, HB.out.size, HB.out.block⟩⟩
theorem Fine.few {g : Nat → Int} {k : Nat} (h : Fine g k) : k ≤ 30 := by
  have h1 := Hd.count_in (rowI g k) h.2 h.1
  have h2 : Hd.R.countP (fun t => (rowI g k).contains t) ≤ Hd.R.length := List.countP_le_length
  have h3 : Hd.R.length = 30 := by decide
  rw [h1, rowI_len, h3] at h2
  exact h2
/-- May, as the reference asks it. -/
theorem may_ref (gen base snap : Int) (f : Nat → Int) (n : Nat) : (HdV.hv ⟨gen, base, snap, none, n, 0, f⟩).may = true ↔ (1 ≤ gen ∧ gen ≤ 1099511627776 ∧ 0 ≤ base ∧ base ≤ 1099511627776) ∧ ¬ (snap ≠ 0 ∧ (snap < 2 ∨ 31 < snap)) ∧ ¬ (snap = 0 ∧ base ≠ 0) ∧ 1 ≤ n ∧ (Fine f n ∧ snap ∉ rowI f n) := by
  unfold Hd.HV.may Hd.HV.first Hd.HV.tapes HdV.hv
  simp only []
  have hne : rowI f n ≠ [] ↔ 1 ≤ n := by
    have := rowI_len f n
    constructor
    · intro h
      rcases Nat.eq_zero_or_pos n with e | e
      · subst e; exact absurd rfl h
      · exact e
    · intro h e; rw [e] at this; simp at this; omega
  rw [Bool.and_eq_true, decide_eq_true_eq, Hd.mayT_iff]
  unfold Fine
  by_cases h0 : snap = 0
  · subst h0
    rw [if_pos rfl]
    constructor
    · rintro ⟨⟨a, b, c, d, e, f'⟩, g1, g2⟩
      exact ⟨⟨a, b, c, d⟩, fun h => h.1 rfl, fun h => by have := h.2; omega, hne.1 e, ⟨fun t ht => ⟨(g1 t ht).1, (g1 t ht).2.1⟩, g2⟩, fun h => by have := (g1 0 h).1; omega⟩
    · rintro ⟨⟨a, b, c, d⟩, _, h2, h3, ⟨g1, g2⟩, _⟩
      exact ⟨⟨a, b, c, d, hne.2 h3, fun h => by have := h.2; exact h2 ⟨rfl, by omega⟩⟩, fun t ht => ⟨(g1 t ht).1, (g1 t ht).2, by simp⟩, g2⟩
  · rw [if_neg h0]
    simp only [List.mem_cons, forall_eq_or_imp, List.nodup_cons]
    constructor
    · rintro ⟨⟨a, b, c, d, e, f'⟩, ⟨k1, g1⟩, k2, g2⟩
      exact ⟨⟨a, b, c, d⟩, fun h => by have := h.2; omega, fun h => h0 h.1, hne.1 e, ⟨fun t ht => ⟨(g1 t ht).1, (g1 t ht).2.1⟩, g2⟩, k2⟩
    · rintro ⟨⟨a, b, c, d⟩, k1, _, h3, ⟨g1, g2⟩, k2⟩
      exact ⟨⟨a, b, c, d, hne.2 h3, fun h => h0 h.1⟩, ⟨⟨by omega, by omega, by simp⟩, fun t ht => ⟨(g1 t ht).1, (g1 t ht).2, by simp⟩⟩, k2, g2⟩
end Go.Proofs.YtpfoekfbcpinlaaGreatDoor
/- The walk of the reference's May. -/
namespace Go.Proofs.YtpfoekfbcpinlaaGreatDoor
open Go.RowKit
set_option linter.unusedVariables false

set_option maxRecDepth 100000 in
set_option maxHeartbeats 8000000 in
theorem rMay_any (q : HdV) (w : World) (h : HdAt w q) :
    Calls Tryz.prog 106 #[q.v] w fun e w' => e = .returned (.bool q.hv.may) ∧ Below w.heap.size w w' := by
  obtain ⟨gen, base, snap, lo, ll, lc, lf⟩ := q
  have HV : Kp ((HdV.hv ⟨gen, base, snap, lo, ll, lc, lf⟩).may = true ↔ (1 ≤ gen ∧ gen ≤ 1099511627776 ∧ 0 ≤ base ∧ base ≤ 1099511627776) ∧ ¬ (snap ≠ 0 ∧ (snap < 2 ∨ 31 < snap)) ∧ ¬ (snap = 0 ∧ base ≠ 0) ∧ 1 ≤ ll ∧ (Fine lf ll ∧ snap ∉ rowI lf ll)) := ⟨may_ref gen base snap lf ll⟩
  obtain ⟨M, hM⟩ : ∃ M, (HdV.hv ⟨gen, base, snap, lo, ll, lc, lf⟩).may = M := ⟨_, rfl⟩
  rw [hM] at HV ⊢
  clear hM
  have HNo : Kp (∀ P : Prop, (M = true ↔ P) → ¬ P → M = false) := ⟨fun P hp hn => by rw [Bool.eq_false_iff]; exact fun h => hn (hp.1 h)⟩
  have hl := h.len
  unfold maxLen at hl
  simp only [] at hl
  have hbx := heap_alloc_new w (.cells #[.int .i64 gen, .int .i64 base, .int .i64 snap, .slice lo ll lc] 38)
  have HB := Kp.mk ((Below.refl w.heap.size w).alloc (Nat.le_refl _) (.cells #[.int .i64 gen, .int .i64 base, .int .i64 snap, .slice lo ll lc] 38))
  have HX := Kp.mk hbx
  have HR := Kp.mk (h.row _ HB.out)
  unfold HdV.v
  simp only [] at HR ⊢
  clear h hbx
  by_cases c0 : gen < 1
  · have t0 : decide (gen < 1) = true := decide_eq_true c0
    have HF : Kp (M = false) := ⟨HNo.out _ HV.out (fun h => by have := h.1; omega)⟩
    go_enter Tryz.func106, Tryz.ntmps106
    go_wp2
    go_ret
    exact ⟨ret_bool HF.out.symm, HB.out⟩
  have t0 : decide (gen < 1) = false := decide_eq_false c0
  by_cases c1 : 1099511627776 < gen
  · have t1 : decide (1099511627776 < gen) = true := decide_eq_true c1
    have HF : Kp (M = false) := ⟨HNo.out _ HV.out (fun h => by have := h.1; omega)⟩
    go_enter Tryz.func106, Tryz.ntmps106
    go_wp2
    go_ret
    exact ⟨ret_bool HF.out.symm, HB.out⟩
  have t1 : decide (1099511627776 < gen) = false := decide_eq_false c1
  by_cases c2 : base < 0
  · have t2 : decide (base < 0) = true := decide_eq_true c2
    have HF : Kp (M = false) := ⟨HNo.out _ HV.out (fun h => by have := h.1; omega)⟩
    go_enter Tryz.func106, Tryz.ntmps106
    go_wp2
    go_ret
    exact ⟨ret_bool HF.out.symm, HB.out⟩
  have t2 : decide (base < 0) = false := decide_eq_false c2
  by_cases c3 : 1099511627776 < base
  · have t3 : decide (1099511627776 < base) = true := decide_eq_true c3
    have HF : Kp (M = false) := ⟨HNo.out _ HV.out (fun h => by have := h.1; omega)⟩
    go_enter Tryz.func106, Tryz.ntmps106
    go_wp2
    go_ret
    exact ⟨ret_bool HF.out.symm, HB.out⟩
  have t3 : decide (1099511627776 < base) = false := decide_eq_false c3
  by_cases s0 : snap = 0
  · subst s0
    by_cases b0 : base = 0
    · subst b0
      by_cases c5 : ll < 1
      · have t5 : decide ((ll : Int) < 1) = true := decide_eq_true (by omega)
        have t5' : decide (ll < 1) = true := decide_eq_true (by omega)
        have t5'' : decide (ll = 0) = true := decide_eq_true (by omega)
        have HF : Kp (M = false) := ⟨HNo.out _ HV.out (fun h => by have := h.2.2.2.1; omega)⟩
        obtain rfl : ll = 0 := by omega
        go_enter Tryz.func106, Tryz.ntmps106
        go_wp2
        go_ret
        exact ⟨ret_bool HF.out.symm, HB.out⟩
      have t5 : decide ((ll : Int) < 1) = false := decide_eq_false (by omega)
      have t5' : decide (ll < 1) = false := decide_eq_false (by omega)
      have HV' : Kp (M = true ↔ (Fine lf ll ∧ 0 ∉ rowI lf ll)) := ⟨HV.out.trans ⟨fun h => h.2.2.2.2, fun h => ⟨⟨by omega, by omega, by omega, by omega⟩, fun h => h.1 rfl, fun h => h.2 rfl, by omega, h⟩⟩⟩
      clear HV
      go_enter Tryz.func106, Tryz.ntmps106
      go_wp2
      generalize w.alloc (.cells #[.int .i64 gen, .int .i64 0, .int .i64 0, .slice lo ll lc] 38) = w1 at *
      obtain ⟨y0, y1, y2, y3⟩ := cells4 HX.out
      go_loopw [3] (fun i wr => ∃ k md : Nat, k ≤ ll ∧ i = .int .i64 k ∧ (Fine lf k ∧ 0 ∉ rowI lf k) ∧ wr = w1.drewN md) (fun i _ => ll - (intOf i).toNat)
      case atStart => exact ⟨0, 0, by omega, rfl, ⟨⟨fun t ht => by simp [rowI] at ht, by simp [rowI]⟩, by simp [rowI]⟩, rfl⟩
      case round =>
        obtain ⟨k, md, hk, rfl, hfs, rfl⟩ := hrel
        obtain ⟨hfi, hsn⟩ := hfs
        have hk30 := hfi.few
        have HFi := Kp.mk hfi
        have HSn := Kp.mk hsn
        clear hfi hsn
        by_cases hkl : k < ll
        · obtain ⟨a, rfl, hc⟩ := HR.out k hkl
          have hk0 : (0 : Int) ≤ (k : Int) := by omega
          have hk1 : (k : Int) < (ll : Int) := by omega
          have t9 : decide ((31 : Int) ≤ (k : Int)) = false := decide_eq_false (by omega)
          have t9' : decide (31 ≤ k) = false := decide_eq_false (by omega)
          have HBad : Kp (¬ (2 ≤ lf k ∧ lf k < 32) ∨ lf k = 0 ∨ lf k ∈ rowI lf k → M = false) := ⟨fun hb => HNo.out _ HV'.out (fun h => by
            have hin : lf k ∈ rowI lf ll := rowI_mem.2 ⟨k, hkl, rfl⟩
            rcases hb with hb | hb | hb
            · exact hb (h.1.1 _ hin)
            · rw [hb] at hin; exact h.2 hin
            · obtain ⟨x, hx, e⟩ := rowI_mem.1 hb
              have := List.pairwise_iff_getElem.1 h.1.2 x k (by rw [rowI_len]; omega) (by rw [rowI_len]; omega) hx
              simp [rowI] at this
              exact this e)⟩
          by_cases d1 : lf k < 2
          · have HF := Kp.mk (HBad.out (.inl (by omega)))
            have t6 : decide (lf k < 2) = true := decide_eq_true d1
            generalize lf k = u at hc t6
            clear d1 HBad
            go_wp2_with fail
            go_quiet (fail)
            go_wp2
            go_ret
            exact ⟨ret_bool HF.out.symm, ⟨HB.out.os, HB.out.tape, HB.out.output, HB.out.size, HB.out.block⟩⟩
          by_cases d2 : 31 < lf k
          · have HF := Kp.mk (HBad.out (.inl (by omega)))
            have t6 : decide (lf k < 2) = false := decide_eq_false d1
            have t7 : decide (31 < lf k) = true := decide_eq_true d2
            generalize lf k = u at hc t6 t7
            clear d1 d2 HBad
            go_wp2_with fail
            go_quiet (fail)
            go_wp2
            go_ret
            exact ⟨ret_bool HF.out.symm, ⟨HB.out.os, HB.out.tape, HB.out.output, HB.out.size, HB.out.block⟩⟩
          by_cases d3 : lf k = 0
          · have HF := Kp.mk (HBad.out (.inr (.inl d3)))
            have t6 : decide (lf k < 2) = false := decide_eq_false d1
            have t7 : decide (31 < lf k) = false := decide_eq_false d2
            have t8 : (lf k == 0) = true := by rw [beq_iff_eq]; exact d3
            generalize lf k = u at hc t6 t7 t8
            clear d1 d2 d3 HBad
            go_wp2_with fail
            go_quiet (fail)
            go_wp2
            go_ret
            exact ⟨ret_bool HF.out.symm, ⟨HB.out.os, HB.out.tape, HB.out.output, HB.out.size, HB.out.block⟩⟩
          have t6 : decide (lf k < 2) = false := decide_eq_false d1
          have t7 : decide (31 < lf k) = false := decide_eq_false d2
          have t8 : (lf k == 0) = false := by rw [beq_eq_false_iff_ne]; exact d3
          have HSu : Kp (lf k ∉ rowI lf k → Fine lf (k + 1) ∧ 0 ∉ rowI lf (k + 1)) := ⟨fun hh => ⟨HFi.out.succ ⟨by omega, by omega⟩ hh, by rw [rowI_succ]; simp only [List.mem_append, List.mem_singleton]; exact fun e => e.elim HSn.out (fun e => d3 e.symm)⟩⟩
          have HIn : Kp (∀ j, j < k → lf j = lf k → M = false) := ⟨fun j hj he => HBad.out (.inr (.inr (rowI_mem.2 ⟨j, hj, he⟩)))⟩
          have HOut : Kp ((∀ j, j < k → lf j ≠ lf k) → lf k ∉ rowI lf k) := ⟨fun hh hm => by obtain ⟨j, hj, he⟩ := rowI_mem.1 hm; exact hh j hj he⟩
          obtain ⟨u, hu⟩ : ∃ u, lf k = u := ⟨_, rfl⟩
          rw [hu] at hc t6 t7 t8 HSu HIn HOut
          clear d1 d2 d3 HBad hu
          go_wp2_with fail
          go_quiet (fail)
          go_wp2
          clear t6 t7 t8 t9 t9'
          go_loopw [4] (fun i wr => ∃ j m2 : Nat, j ≤ k ∧ i = .int .i64 j ∧ (∀ x, x < j → lf x ≠ u) ∧ wr = w1.drewN m2) (fun i _ => k - (intOf i).toNat)
          case atStart => exact ⟨0, _, by omega, rfl, fun x hx => absurd hx (Nat.not_lt_zero x), World.drewN_drewN _ _ _⟩
          case round =>
            obtain ⟨j, m2, hj, rfl, hno, rfl⟩ := hrel
            have HNj := Kp.mk hno
            clear hno
            by_cases hjk : j < k
            · obtain ⟨a', ha', hcj⟩ := HR.out j (by omega)
              obtain rfl := Option.some.inj ha'
              have hj0 : (0 : Int) ≤ (j : Int) := by omega
              have hj1 : (j : Int) < (ll : Int) := by omega
              have t10 : decide ((j : Int) < (k : Int)) = true := decide_eq_true (by omega)
              have t10' : decide (j < k) = true := decide_eq_true hjk
              by_cases he : lf j = u
              · have HF := Kp.mk (HIn.out j hjk he)
                rw [he] at hcj
                clear he ha'
                go_wp2_with fail
                go_quiet (fail)
                go_wp2
                go_ret
                exact ⟨ret_bool HF.out.symm, ⟨HB.out.os, HB.out.tape, HB.out.output, HB.out.size, HB.out.block⟩⟩
              · have HE : Kp (∀ x, x < j + 1 → lf x ≠ u) := ⟨fun x hx => by
                  by_cases h : x < j
                  · exact HNj.out x h
                  · obtain rfl : x = j := by omega
                    exact he⟩
                have t11 : (lf j == u) = false := by rw [beq_eq_false_iff_ne]; exact he
                generalize lf j = v at hcj t11
                clear he ha'
                go_wp2_with fail
                go_quiet (fail)
                go_wp2
                go_roundw
                case rel => exact ⟨j + 1, _, by omega, by go_num, HE.out, rfl⟩
                case measure => simp [intOf]; omega
            · obtain rfl : j = k := by omega
              have HG := Kp.mk (HSu.out (HOut.out HNj.out))
              go_wp2
              go_roundw
              case rel => exact ⟨j + 1, _, by omega, by go_num, HG.out, rfl⟩
              case measure => simp [intOf]; omega
        · obtain rfl : k = ll := by omega
          have HF : Kp (M = true) := ⟨HV'.out.2 ⟨HFi.out, HSn.out⟩⟩
          go_wp2
          go_ret
          exact ⟨ret_bool HF.out.symm, ⟨HB.out.os, HB.out.tape, HB.out.output, HB.out.size, HB.out.block⟩⟩
    · have t4 : (base != 0) = true := by rw [bne_iff_ne]; exact b0
      have HF : Kp (M = false) := ⟨HNo.out _ HV.out (fun h => h.2.2.1 ⟨rfl, b0⟩)⟩
      go_enter Tryz.func106, Tryz.ntmps106
      go_wp2
      go_ret
      exact ⟨ret_bool HF.out.symm, HB.out⟩
  · have ts0 : (snap != 0) = true := by rw [bne_iff_ne]; exact s0
    have ts0' : (snap == 0) = false := by rw [beq_eq_false_iff_ne]; exact s0
    by_cases s1 : snap < 2
    · have ts1 : decide (snap < 2) = true := decide_eq_true s1
      have HF : Kp (M = false) := ⟨HNo.out _ HV.out (fun h => h.2.1 ⟨s0, .inl s1⟩)⟩
      go_enter Tryz.func106, Tryz.ntmps106
      go_wp2
      go_ret
      exact ⟨ret_bool HF.out.symm, HB.out⟩
    have ts1 : decide (snap < 2) = false := decide_eq_false s1
    by_cases s2 : 31 < snap
    · have ts2 : decide (31 < snap) = true := decide_eq_true s2
      have HF : Kp (M = false) := ⟨HNo.out _ HV.out (fun h => h.2.1 ⟨s0, .inr s2⟩)⟩
      go_enter Tryz.func106, Tryz.ntmps106
      go_wp2
      go_ret
      exact ⟨ret_bool HF.out.symm, HB.out⟩
    have ts2 : decide (31 < snap) = false := decide_eq_false s2
    by_cases c5 : ll < 1
    · have t5 : decide ((ll : Int) < 1) = true := decide_eq_true (by omega)
      have t5' : decide (ll < 1) = true := decide_eq_true (by omega)
      have t5'' : decide (ll = 0) = true := decide_eq_true (by omega)
      have HF : Kp (M = false) := ⟨HNo.out _ HV.out (fun h => by have := h.2.2.2.1; omega)⟩
      obtain rfl : ll = 0 := by omega
      go_enter Tryz.func106, Tryz.ntmps106
      go_wp2
      go_ret
      exact ⟨ret_bool HF.out.symm, HB.out⟩
    have t5 : decide ((ll : Int) < 1) = false := decide_eq_false (by omega)
    have t5' : decide (ll < 1) = false := decide_eq_false (by omega)
    have HV' : Kp (M = true ↔ (Fine lf ll ∧ snap ∉ rowI lf ll)) := ⟨HV.out.trans ⟨fun h => h.2.2.2.2, fun h => ⟨⟨by omega, by omega, by omega, by omega⟩, fun h => h.2.elim s1 s2, fun h => s0 h.1, by omega, h⟩⟩⟩
    clear HV
    go_enter Tryz.func106, Tryz.ntmps106
    go_wp2
    generalize w.alloc (.cells #[.int .i64 gen, .int .i64 base, .int .i64 snap, .slice lo ll lc] 38) = w1 at *
    obtain ⟨y0, y1, y2, y3⟩ := cells4 HX.out
    go_loopw [3] (fun i wr => ∃ k md : Nat, k ≤ ll ∧ i = .int .i64 k ∧ (Fine lf k ∧ snap ∉ rowI lf k) ∧ wr = w1.drewN md) (fun i _ => ll - (intOf i).toNat)
    case atStart => exact ⟨0, 0, by omega, rfl, ⟨⟨fun t ht => by simp [rowI] at ht, by simp [rowI]⟩, by simp [rowI]⟩, rfl⟩
    case round =>
      obtain ⟨k, md, hk, rfl, hfs, rfl⟩ := hrel
      obtain ⟨hfi, hsn⟩ := hfs
      have hk30 := hfi.few
      have HFi := Kp.mk hfi
      have HSn := Kp.mk hsn
      clear hfi hsn
      by_cases hkl : k < ll
      · obtain ⟨a, rfl, hc⟩ := HR.out k hkl
        have hk0 : (0 : Int) ≤ (k : Int) := by omega
        have hk1 : (k : Int) < (ll : Int) := by omega
        have t9 : decide ((31 : Int) ≤ (k : Int)) = false := decide_eq_false (by omega)
        have t9' : decide (31 ≤ k) = false := decide_eq_false (by omega)
        have HBad : Kp (¬ (2 ≤ lf k ∧ lf k < 32) ∨ lf k = snap ∨ lf k ∈ rowI lf k → M = false) := ⟨fun hb => HNo.out _ HV'.out (fun h => by
          have hin : lf k ∈ rowI lf ll := rowI_mem.2 ⟨k, hkl, rfl⟩
          rcases hb with hb | hb | hb
          · exact hb (h.1.1 _ hin)
          · rw [hb] at hin; exact h.2 hin
          · obtain ⟨x, hx, e⟩ := rowI_mem.1 hb
            have := List.pairwise_iff_getElem.1 h.1.2 x k (by rw [rowI_len]; omega) (by rw [rowI_len]; omega) hx
            simp [rowI] at this
            exact this e)⟩
        by_cases d1 : lf k < 2
        · have HF := Kp.mk (HBad.out (.inl (by omega)))
          have t6 : decide (lf k < 2) = true := decide_eq_true d1
          generalize lf k = u at hc t6
          clear d1 HBad
          go_wp2_with fail
          go_quiet (fail)
          go_wp2
          go_ret
          exact ⟨ret_bool HF.out.symm, ⟨HB.out.os, HB.out.tape, HB.out.output, HB.out.size, HB.out.block⟩⟩
        by_cases d2 : 31 < lf k
        · have HF := Kp.mk (HBad.out (.inl (by omega)))
          have t6 : decide (lf k < 2) = false := decide_eq_false d1
          have t7 : decide (31 < lf k) = true := decide_eq_true d2
          generalize lf k = u at hc t6 t7
          clear d1 d2 HBad
          go_wp2_with fail
          go_quiet (fail)
          go_wp2
          go_ret
          exact ⟨ret_bool HF.out.symm, ⟨HB.out.os, HB.out.tape, HB.out.output, HB.out.size, HB.out.block⟩⟩
        by_cases d3 : lf k = snap
        · have HF := Kp.mk (HBad.out (.inr (.inl d3)))
          have t6 : decide (lf k < 2) = false := decide_eq_false d1
          have t7 : decide (31 < lf k) = false := decide_eq_false d2
          have t8 : (lf k == snap) = true := by rw [beq_iff_eq]; exact d3
          generalize lf k = u at hc t6 t7 t8
          clear d1 d2 d3 HBad
          go_wp2_with fail
          go_quiet (fail)
          go_wp2
          go_ret
          exact ⟨ret_bool HF.out.symm, ⟨HB.out.os, HB.out.tape, HB.out.output, HB.out.size, HB.out.block⟩⟩
        have t6 : decide (lf k < 2) = false := decide_eq_false d1
        have t7 : decide (31 < lf k) = false := decide_eq_false d2
        have t8 : (lf k == snap) = false := by rw [beq_eq_false_iff_ne]; exact d3
        have HSu : Kp (lf k ∉ rowI lf k → Fine lf (k + 1) ∧ snap ∉ rowI lf (k + 1)) := ⟨fun hh => ⟨HFi.out.succ ⟨by omega, by omega⟩ hh, by rw [rowI_succ]; simp only [List.mem_append, List.mem_singleton]; exact fun e => e.elim HSn.out (fun e => d3 e.symm)⟩⟩
        have HIn : Kp (∀ j, j < k → lf j = lf k → M = false) := ⟨fun j hj he => HBad.out (.inr (.inr (rowI_mem.2 ⟨j, hj, he⟩)))⟩
        have HOut : Kp ((∀ j, j < k → lf j ≠ lf k) → lf k ∉ rowI lf k) := ⟨fun hh hm => by obtain ⟨j, hj, he⟩ := rowI_mem.1 hm; exact hh j hj he⟩
        obtain ⟨u, hu⟩ : ∃ u, lf k = u := ⟨_, rfl⟩
        rw [hu] at hc t6 t7 t8 HSu HIn HOut
        clear d1 d2 d3 HBad hu
        go_wp2_with fail
        go_quiet (fail)
        go_wp2
        clear t6 t7 t8 t9 t9'
        go_loopw [4] (fun i wr => ∃ j m2 : Nat, j ≤ k ∧ i = .int .i64 j ∧ (∀ x, x < j → lf x ≠ u) ∧ wr = w1.drewN m2) (fun i _ => k - (intOf i).toNat)
        case atStart => exact ⟨0, _, by omega, rfl, fun x hx => absurd hx (Nat.not_lt_zero x), World.drewN_drewN _ _ _⟩
        case round =>
          obtain ⟨j, m2, hj, rfl, hno, rfl⟩ := hrel
          have HNj := Kp.mk hno
          clear hno
          by_cases hjk : j < k
          · obtain ⟨a', ha', hcj⟩ := HR.out j (by omega)
            obtain rfl := Option.some.inj ha'
            have hj0 : (0 : Int) ≤ (j : Int) := by omega
            have hj1 : (j : Int) < (ll : Int) := by omega
            have t10 : decide ((j : Int) < (k : Int)) = true := decide_eq_true (by omega)
            have t10' : decide (j < k) = true := decide_eq_true hjk
            by_cases he : lf j = u
            · have HF := Kp.mk (HIn.out j hjk he)
              rw [he] at hcj
              clear he ha'
              go_wp2_with fail
              go_quiet (fail)
              go_wp2
              go_ret
              exact ⟨ret_bool HF.out.symm, ⟨HB.out.os, HB.out.tape, HB.out.output, HB.out.size, HB.out.block⟩⟩
            · have HE : Kp (∀ x, x < j + 1 → lf x ≠ u) := ⟨fun x hx => by
                by_cases h : x < j
                · exact HNj.out x h
                · obtain rfl : x = j := by omega
                  exact he⟩
              have t11 : (lf j == u) = false := by rw [beq_eq_false_iff_ne]; exact he
              generalize lf j = v at hcj t11
              clear he ha'
              go_wp2_with fail
              go_quiet (fail)
              go_wp2
              go_roundw
              case rel => exact ⟨j + 1, _, by omega, by go_num, HE.out, rfl⟩
              case measure => simp [intOf]; omega
          · obtain rfl : j = k := by omega
            have HG := Kp.mk (HSu.out (HOut.out HNj.out))
            go_wp2
            go_roundw
            case rel => exact ⟨j + 1, _, by omega, by go_num, HG.out, rfl⟩
            case measure => simp [intOf]; omega
      · obtain rfl : k = ll := by omega
        have HF : Kp (M = true) := ⟨HV'.out.2 ⟨HFi.out, HSn.out⟩⟩
        go_wp2
        go_ret
        exact ⟨ret_bool HF.out.symm, ⟨HB.out.os, HB.out.tape, HB.out.output, HB.out.size, HB.out.block⟩⟩
end Go.Proofs.YtpfoekfbcpinlaaGreatDoor
/- The walks of the reference's Encode, Size. -/
namespace Go.Proofs.YtpfoekfbcpinlaaGreatDoor
open Go.RowKit
set_option linter.unusedVariables false
attribute [local go_sem ↓] Go.wp_at_zero Go.wp_at_succ

theorem rEncode_no (q : HdV) (w : World) (h : HdAt w q) (hm : q.hv.may = false) :
    Calls Tryz.prog 84 #[q.v] w fun e w' => e = .returned (.tuple #[.string ⟨#[]⟩, .int .i64 4]) ∧ Below w.heap.size w w' := by
  have HM := Kp.mk (fun W (hW : Below w.heap.size w W) => rMay_any q W (h.below hW))
  rw [hm] at HM
  clear h hm
  obtain ⟨gen, base, snap, lo, ll, lc, lf⟩ := q
  unfold HdV.v at HM ⊢
  simp only [] at HM ⊢
  have HB1 := Kp.mk ((Below.refl w.heap.size w).alloc (Nat.le_refl _) (.cells #[.int .i64 gen, .int .i64 base, .int .i64 snap, .slice lo ll lc] 38))
  go_enter Tryz.func84, Tryz.ntmps84
  go_wp2_with fail
  refine (HM.out _ HB1.out).mono ?_
  rintro e w2 ⟨rfl, b2⟩
  have B2 := Kp.mk (HB1.out.trans (b2.mono HB1.out.size))
  clear b2
  go_wp2
  go_ret2
  exact ⟨by trivial, B2.out⟩
theorem vt_any (w1 : World) (x : Int) (h0 : 0 ≤ x) (h1 : x < 18446744073709551616) (W : World) (hW : Below w1.heap.size w1 W) :
    Calls Tryz.prog 107 #[.int .u64 x] W fun e w' => e = .returned (.string (B (Var.vb x.toNat))) ∧ Below w1.heap.size w1 w' := by
  obtain ⟨n, rfl⟩ := Int.eq_ofNat_of_zero_le h0
  rw [Int.toNat_natCast]
  exact (refVarint_any n W (by omega)).mono fun e w' ⟨he, hb⟩ => ⟨he, hW.trans (hb.mono hW.size)⟩
set_option maxRecDepth 20000 in
set_option maxHeartbeats 4000000 in
theorem rEncode_yes (q : HdV) (w : World) (h : HdAt w q) (hm : q.hv.may = true) :
    Calls Tryz.prog 84 #[q.v] w fun e w' => e = .returned (.tuple #[.string (B q.hv.enc), .int .i64 0]) ∧ Below w.heap.size w w' := by
  have HM := Kp.mk (fun W (hW : Below w.heap.size w W) => rMay_any q W (h.below hW))
  rw [hm] at HM
  obtain ⟨g1, g2, b1, b2, hne, _⟩ := Hd.may_first hm
  obtain ⟨⟨s1, s2⟩, ht⟩ := Hd.may_tapes hm
  have hn := (Hd.HV.few hm).2
  obtain ⟨gen, base, snap, lo, ll, lc, lf⟩ := q
  have HROW := Kp.mk h.row
  unfold HdV.v at HM ⊢
  unfold HdV.hv at ht g1 g2 b1 b2 s1 s2 hn ⊢
  simp only [rowI_len] at HM g1 g2 b1 b2 s1 s2 hn ht HROW ⊢
  have HT : Kp (∀ k, k < ll → 2 ≤ lf k ∧ lf k < 32) := ⟨fun k hk => ht _ (rowI_mem.2 ⟨k, hk, rfl⟩)⟩
  have hg0 : 0 ≤ gen := by omega
  have hl0 : (0 : Int) ≤ (ll : Int) := by omega
  have HEnc : Kp ((⟨gen, base, snap, rowI lf ll⟩ : Hd.HV).enc = (((Var.vb gen.toNat ++ Var.vb base.toNat) ++ Var.vb snap.toNat) ++ Var.vb (ll : Int).toNat) ++ Hd.logB (rowI lf ll)) := ⟨by simp [Hd.HV.enc, rowI_len]⟩
  have z1 := Var.vb_len10 (n := gen.toNat) (by omega)
  have z2 := Var.vb_len10 (n := base.toNat) (by omega)
  have z3 := Var.vb_len10 (n := snap.toNat) (by omega)
  have z4 := Var.vb_len10 (n := (ll : Int).toNat) (by omega)
  have HCat : Kp (((B (Var.vb gen.toNat) ++ B (Var.vb base.toNat)) ++ B (Var.vb snap.toNat)) ++ B (Var.vb (ll : Int).toNat) = B (((Var.vb gen.toNat ++ Var.vb base.toNat) ++ Var.vb snap.toNat) ++ Var.vb (ll : Int).toNat)) := ⟨by rw [B_append, B_append, B_append]⟩
  rw [HEnc.out]
  obtain ⟨w1, hw1⟩ : ∃ w1, w.alloc (.cells #[.int .i64 gen, .int .i64 base, .int .i64 snap, .slice lo ll lc] 38) = w1 := ⟨_, rfl⟩
  have HV1 := Kp.mk (fun w1 => vt_any w1 gen hg0 (by omega))
  have HV2 := Kp.mk (fun w1 => vt_any w1 base b1 (by omega))
  have HV3 := Kp.mk (fun w1 => vt_any w1 snap s1 (by omega))
  have HV4 := Kp.mk (fun w1 => vt_any w1 (ll : Int) hl0 (by omega))
  obtain ⟨pre, hpre⟩ : ∃ p, ((Var.vb gen.toNat ++ Var.vb base.toNat) ++ Var.vb snap.toNat) ++ Var.vb (ll : Int).toNat = p := ⟨_, rfl⟩
  have hpl : pre.length ≤ 40 := by rw [← hpre]; simp only [List.length_append]; omega
  rw [hpre] at HCat ⊢
  have k1 : (B (Var.vb gen.toNat)).size ≤ 10 := by rw [B_size]; exact z1
  have k2 : (B (Var.vb base.toNat)).size ≤ 10 := by rw [B_size]; exact z2
  have k3 : (B (Var.vb snap.toNat)).size ≤ 10 := by rw [B_size]; exact z3
  have k4 : (B (Var.vb (ll : Int).toNat)).size ≤ 10 := by rw [B_size]; exact z4
  generalize B (Var.vb gen.toNat) = S1 at HV1 HCat k1
  generalize B (Var.vb base.toNat) = S2 at HV2 HCat k2
  generalize B (Var.vb snap.toNat) = S3 at HV3 HCat k3
  generalize B (Var.vb (ll : Int).toNat) = S4 at HV4 HCat k4
  have m12 : (S1 ++ S2).size ≤ 20 := by rw [ByteArray.size_append]; omega
  have m123 : (S1 ++ S2 ++ S3).size ≤ 30 := by rw [ByteArray.size_append]; omega
  have n12 : ¬ 9223372036854775807 < S1.size + S2.size := by omega
  have n123 : ¬ 9223372036854775807 < (S1 ++ S2).size + S3.size := by omega
  have n1234 : ¬ 9223372036854775807 < (S1 ++ S2 ++ S3).size + S4.size := by omega
  have n123' : ¬ 9223372036854775807 < S1.size + S2.size + S3.size := by omega
  have n1234' : ¬ 9223372036854775807 < S1.size + S2.size + S3.size + S4.size := by omega
  have x1 : IntKind.u64.wrap gen = gen := by rw [IntKind.wrap_u64]; omega
  have x2 : IntKind.u64.wrap base = base := by rw [IntKind.wrap_u64]; omega
  have x3 : IntKind.u64.wrap snap = snap := by rw [IntKind.wrap_u64]; omega
  have x4 : IntKind.u64.wrap (ll : Int) = (ll : Int) := by rw [IntKind.wrap_u64]; omega
  have hbx := heap_alloc_new w (.cells #[.int .i64 gen, .int .i64 base, .int .i64 snap, .slice lo ll lc] 38)
  have HB1 := Kp.mk ((Below.refl w.heap.size w).alloc (Nat.le_refl _) (.cells #[.int .i64 gen, .int .i64 base, .int .i64 snap, .slice lo ll lc] 38))
  have HX := Kp.mk hbx
  clear hbx hw1 w1 h hm hne ht z1 z2 z3 z4 hpre HEnc
  go_enter Tryz.func84, Tryz.ntmps84
  go_wp2_with fail
  refine (HM.out _ HB1.out).mono ?_
  rintro e w2 ⟨rfl, bb⟩
  have B2 := Kp.mk (HB1.out.trans (bb.mono HB1.out.size))
  have hx2 := (bb.block _ (lt_of_block' HX.out)).trans HX.out
  have HX2 := Kp.mk hx2
  have HKeep : Kp (∀ W, Below w2.heap.size w2 W → Below w2.heap.size w2 W ∧ W.cell? ⟨w.heap.size, 0, none⟩ = some (.int .i64 gen) ∧ W.cell? ⟨w.heap.size, 1, none⟩ = some (.int .i64 base) ∧ W.cell? ⟨w.heap.size, 2, none⟩ = some (.int .i64 snap) ∧ W.cell? ⟨w.heap.size, 3, none⟩ = some (.slice lo ll lc)) := ⟨fun W hW => ⟨hW, cells4 ((hW.block _ (lt_of_block' HX2.out)).trans HX2.out)⟩⟩
  obtain ⟨-, y0, y1, y2, y3⟩ := HKeep.out w2.drew (Below.refl _ _).drew
  have hb0 : Below w2.heap.size w2 w2.drew := (Below.refl _ _).drew
  clear bb HX HM HB1 hx2
  go_wp2
  go_region_held3 (fun w' => Below w2.heap.size w2 w' ∧ w'.cell? ⟨w.heap.size, 0, none⟩ = some (.int .i64 gen) ∧ w'.cell? ⟨w.heap.size, 1, none⟩ = some (.int .i64 base) ∧ w'.cell? ⟨w.heap.size, 2, none⟩ = some (.int .i64 snap) ∧ w'.cell? ⟨w.heap.size, 3, none⟩ = some (.slice lo ll lc)) (first | exact HKeep.out _ (by assumption) | go_keep)
    (first
      | (go_at_call 107; (with_reducible refine (HV1.out w2 _ (by assumption)).mono ?_); rintro e w5 ⟨rfl, hb5⟩)
      | (go_at_call 107; (with_reducible refine (HV2.out w2 _ (by assumption)).mono ?_); rintro e w6 ⟨rfl, hb6⟩)
      | (go_at_call 107; (with_reducible refine (HV3.out w2 _ (by assumption)).mono ?_); rintro e w7 ⟨rfl, hb7⟩)
      | (go_at_call 107; (with_reducible refine (HV4.out w2 _ (by assumption)).mono ?_); rintro e w8 ⟨rfl, hb8⟩))
  have HLL : Kp (∀ k, k ≤ ll → (Hd.logB (rowI lf k)).length ≤ 300) := ⟨fun k hk => by
    have := logB_len (rowI lf k) (fun t hx => by
      obtain ⟨j, hj, rfl⟩ := rowI_mem.1 hx
      have := (HT.out j (by omega)).2
      omega)
    rw [rowI_len] at this
    omega⟩
  have HS2 := Kp.mk (fun k => logB_succ lf k)
  have HB8 := Kp.mk hb8
  have HBB := Kp.mk (fun W (hW : Below w2.heap.size w2 W) => B2.out.trans (hW.mono B2.out.size))
  rw [HCat.out]
  clear hb0 hb5 hb6 hb7 hb8 n12 n123 n1234 n123' n1234' m12 m123 k1 k2 k3 k4 x1 x2 x3 x4 HV1 HV2 HV3 HV4 HCat
  go_wp2
  go_loopw [4, 5] (fun v i wr => ∃ k : Nat, k ≤ ll ∧ i = .int .i64 k ∧ v = .string (B (pre ++ Hd.logB (rowI lf k))) ∧ Below w2.heap.size w2 wr) (fun _ i _ => ll - (intOf i).toNat)
  case atStart => exact ⟨0, by omega, rfl, by simp [rowI, Hd.logB], HB8.out⟩
  case round =>
    obtain ⟨k, hk, rfl, rfl, hb⟩ := hrel
    have HB := Kp.mk hb
    have HLk := HLL.out k hk
    have hsz : (B (pre ++ Hd.logB (rowI lf k))).size ≤ 400 := by rw [B_size, List.length_append]; omega
    have HCt : Kp (∀ x, B (pre ++ Hd.logB (rowI lf k)) ++ B x = B (pre ++ (Hd.logB (rowI lf k) ++ x))) := ⟨fun x => by rw [B_append, List.append_assoc]⟩
    obtain ⟨-, y0, y1, y2, y3⟩ := HKeep.out wr hb
    clear hb HLk
    by_cases hkl : k < ll
    · obtain ⟨a, rfl, hc⟩ := HROW.out wr (HBB.out wr HB.out) k hkl
      have hk0 : (0 : Int) ≤ (k : Int) := by omega
      have hk1 : (k : Int) < (ll : Int) := by omega
      obtain ⟨hx0, hx1⟩ := HT.out k hkl
      have HSk := Kp.mk (HS2.out k)
      generalize lf k = x at hc hx0 hx1 HSk
      have HVx := Kp.mk (vt_any w2 x (by omega) (by omega))
      have hxs : (B (Var.vb x.toNat)).size ≤ 10 := by rw [B_size]; exact Var.vb_len10 (by omega)
      have HCx := Kp.mk (HCt.out (Var.vb x.toNat))
      rw [← HSk.out] at HCx
      generalize B (Var.vb x.toNat) = X at HVx hxs HCx
      generalize B (pre ++ Hd.logB (rowI lf k)) = T at hsz HCx HCt ⊢
      have x5 : IntKind.u64.wrap x = x := by rw [IntKind.wrap_u64]; omega
      have n5 : ¬ 9223372036854775807 < T.size + X.size := by omega
      go_wp2_with fail
      refine (HVx.out _ HB.out).mono ?_
      rintro e w9 ⟨rfl, hb9⟩
      have HB9 := Kp.mk hb9
      clear hb9
      go_wp2
      go_roundw
      case rel => exact ⟨k + 1, by omega, by go_num, by rw [HCx.out], HB9.out⟩
      case measure => simp [intOf]; omega
    · obtain rfl : k = ll := by omega
      go_wp2
      go_ret2
      exact ⟨by trivial, HBB.out wr HB.out⟩
theorem rEncode_any (q : HdV) (w : World) (h : HdAt w q) :
    Calls Tryz.prog 84 #[q.v] w fun e w' => e = .returned (.tuple #[.string (encV q.hv).1, .int .i64 (encV q.hv).2]) ∧ Below w.heap.size w w' := by
  unfold encV
  cases hm : q.hv.may
  · simp only [Bool.false_eq_true, if_false]
    exact rEncode_no q w h hm
  · simp only [if_true]
    exact rEncode_yes q w h hm
end Go.Proofs.YtpfoekfbcpinlaaGreatDoor
/- Plain law: what counts behind a Put that failed anywhere, and a Back. -/
namespace Go.Proofs.YtpfoekfbcpinlaaGreatDoor
open Go.RowKit
set_option linter.unusedVariables false

namespace Hd
/-- One of the tapes 0 and 1, and the other one. -/
theorem disk_cases (D : DiskV) :
    (diskV D = (HV.zero, 0, false) ∧ otherV D = 0 ∧ (ofV (D.tp 0).b.data.toList).1.gen = 0 ∧ (ofV (D.tp 1).b.data.toList).1.gen = 0) ∨
    (∃ h : HV, diskV D = (h, 0, true) ∧ otherV D = 1 ∧ (ofV (D.tp 0).b.data.toList).1 = h ∧ h.gen ≠ 0 ∧ (ofV (D.tp 1).b.data.toList).1.gen ≤ h.gen) ∨
    (∃ h : HV, diskV D = (h, 1, true) ∧ otherV D = 0 ∧ (ofV (D.tp 1).b.data.toList).1 = h ∧ (ofV (D.tp 0).b.data.toList).1.gen < h.gen) := by
  have hx := (ofV_gen (D.tp 0).b.data.toList).2.1
  have hy := (ofV_gen (D.tp 1).b.data.toList).2.1
  by_cases h0 : (ofV (D.tp 0).b.data.toList).1.gen = 0 ∧ (ofV (D.tp 1).b.data.toList).1.gen = 0
  · have := loadV_none h0.1 h0.2
    exact .inl ⟨this, other_none this, h0.1, h0.2⟩
  · by_cases h1 : (ofV (D.tp 1).b.data.toList).1.gen ≤ (ofV (D.tp 0).b.data.toList).1.gen
    · have hne : (ofV (D.tp 0).b.data.toList).1.gen ≠ 0 := fun e => h0 ⟨e, by omega⟩
      have := loadV_left hne h1
      exact .inr (.inl ⟨_, this, other_is this, rfl, hne, h1⟩)
    · have := loadV_right hx (show _ < (ofV (D.tp 1).b.data.toList).1.gen by omega)
      exact .inr (.inr ⟨_, this, other_is this, rfl, by omega⟩)
theorem zero_gen : HV.zero.gen = 0 := rfl
/-- What counts, where the one tape is as it was, and the other one nothing, or a head of a greater generation. -/
theorem disk_after {D E : DiskV} (ho : E.tp (1 - otherV D) = D.tp (1 - otherV D)) :
    ((ofV (E.tp (otherV D)).b.data.toList).1 = HV.zero → diskV E = diskV D) ∧
    (∀ h : HV, h.gen ≠ 0 → 0 ≤ h.gen → (ofV (E.tp (otherV D)).b.data.toList).1 = h → ((diskV D).2.2 = true → (diskV D).1.gen < h.gen) → diskV E = (h, otherV D, true)) := by
  have zg := zero_gen
  rcases disk_cases D with ⟨h1, h2, h3, h4⟩ | ⟨p, h1, h2, h3, h4, h5⟩ | ⟨p, h1, h2, h3, h4⟩
  · rw [h2] at ho ⊢
    rw [h1]
    refine ⟨fun hz => ?_, fun h hg hp hv hn => ?_⟩
    · unfold diskV
      exact loadV_none (by rw [hz]; rfl) (by rw [ho]; exact h4)
    · unfold diskV
      rw [loadV_left (by rw [hv]; exact hg) (by rw [ho, hv, h4]; exact hp), hv]
  · rw [h2] at ho ⊢
    rw [h1]
    refine ⟨fun hz => ?_, fun h hg hp hv hn => ?_⟩
    · unfold diskV
      rw [loadV_left (by rw [ho, h3]; exact h4) (by rw [hz, ho, h3]; have := (ofV_gen (D.tp 0).b.data.toList).2.1; rw [h3] at this; exact this), ho, h3]
    · unfold diskV
      have := (ofV_gen (D.tp 0).b.data.toList).2.1
      rw [loadV_right (by rw [ho]; exact this) (by rw [ho, h3, hv]; exact hn rfl), hv]
  · rw [h2] at ho ⊢
    rw [h1]
    have h0 := (ofV_gen (D.tp 0).b.data.toList).2.1
    refine ⟨fun hz => ?_, fun h hg hp hv hn => ?_⟩
    · unfold diskV
      rw [loadV_right (by rw [hz]; exact Int.le_refl _) (by rw [hz, ho, h3]; show 0 < p.gen; omega), ho, h3]
    · unfold diskV
      have := hn rfl
      simp only [] at this
      rw [loadV_left (by rw [hv]; exact hg) (by rw [hv, ho, h3]; omega), hv]
/-- Wherever the disk fails in a Put: what is behind a Back. -/
theorem swaps_out {D0 D1 : DiskV} {h : HV} (kl : Nat) (kf : Nat → Int) (hok : Ok D1) (hd : D1.down = false) (htp : D1.tp = D0.tp) (hfirm : ∀ k, k < 32 → (D0.tp k).b.size = (D0.tp k).firm)
    (hnew : (diskV D0).2.2 = true → (diskV D0).1.gen < h.gen) :
    (putV D1 h).2.down = decide ((putV D1 h).1 = 45) ∧
    (∀ k, k < 32 → k ≠ otherV D0 → (backV (putV D1 h).2 kl kf).tp k = D0.tp k) ∧
    ((diskV (backV (putV D1 h).2 kl kf) = diskV D0 ∧ ((putV D1 h).1 = 44 ∨ (putV D1 h).1 = 45 ∨ (putV D1 h).1 = 4 ∧ h.may = false)) ∨
     (diskV (backV (putV D1 h).2 kl kf) = (h, otherV D0, true) ∧ ((putV D1 h).1 = 0 ∨ (putV D1 h).1 = 45))) := by
  have ho1 : otherV D1 = otherV D0 := by unfold otherV diskV; rw [htp]
  have hlt : otherV D0 ≤ 1 := other_le D0
  cases hm : h.may
  · have hp : putV D1 h = (4, D1) := by unfold putV; rw [if_pos hm]
    rw [hp]
    have hall : ∀ k, k < 32 → (backV D1 kl kf).tp k = D0.tp k := fun k hk => by
      obtain ⟨b1, b2⟩ := back_one D1 kl kf 0 (by decide) (fun k hk _ => by rw [htp]; exact hfirm k hk)
      by_cases e : k = 0
      · subst e
        rw [b2, backS_same (turn' := 0) (by rw [htp]; exact hfirm 0 (by decide)), htp]
      · rw [b1 k hk e, htp]
    refine ⟨by rw [hd]; rfl, fun k hk _ => hall k hk, .inl ⟨?_, .inr (.inr ⟨rfl, rfl⟩)⟩⟩
    unfold diskV
    rw [hall 0 (by decide), hall 1 (by decide)]
  · obtain ⟨p1, _, p2⟩ := putV_out hm hd hok
    rw [ho1] at p1 p2
    generalize putV D1 h = P at p1 p2 ⊢
    obtain ⟨f, D2⟩ := P
    simp only [] at p1 p2 ⊢
    generalize ht : otherV D0 = t at p1 p2 hlt ⊢
    obtain ⟨b1, b2⟩ := back_one D2 kl kf t (by omega) (fun k hk hkt => by rw [p1 k hkt, htp]; exact hfirm k hk)
    have hoth : ∀ k, k < 32 → k ≠ t → (backV D2 kl kf).tp k = D0.tp k := fun k hk hkt => by rw [b1 k hk hkt, p1 k hkt, htp]
    have hg := (may_first hm).1
    have hafter := disk_after (D := D0) (E := backV D2 kl kf) (by rw [ht]; exact hoth _ (by omega) (by omega))
    rw [ht, b2] at hafter
    have hz : ∀ x : TapeV, x.b.size = x.firm → D2.tp t = x → (backS kl kf (D2.tp t) 0).1 = x := fun x hx e => by rw [e]; exact backS_same (turn' := 0) hx
    rcases p2 with ⟨rfl, pd, pt⟩ | ⟨rfl, pd, pt⟩ | ⟨rfl, pd, pt⟩
    · refine ⟨by rw [pd]; rfl, hoth, ?_⟩
      rcases pt with pt | pt
      · refine .inl ⟨?_, .inr (.inl rfl)⟩
        have e1 : (backV D2 kl kf).tp t = D0.tp t := by rw [b2, hz (D1.tp t) (by rw [htp]; exact hfirm t (by omega)) pt, htp]
        have hall : ∀ k, k < 32 → (backV D2 kl kf).tp k = D0.tp k := fun k hk => by
          by_cases e : k = t
          · subst e; exact e1
          · exact hoth k hk e
        unfold diskV
        rw [hall 0 (by decide), hall 1 (by decide)]
      · have hbs := bytes_size h
        have hb : (backS kl kf (D2.tp t) 0).1 = ⟨(bytesV h).extract 0 (backN kl kf ⟨bytesV h, 0⟩ 0), backN kl kf ⟨bytesV h, 0⟩ 0⟩ := by
          rw [pt]
          unfold backS
          rw [if_neg (by show ¬ (bytesV h).size = 0; omega)]
          simp only [Nat.zero_add]
        have hn := backN_le kl kf ⟨bytesV h, 0⟩ 0
        have hn : backN kl kf ⟨bytesV h, 0⟩ 0 ≤ (bytesV h).size := hn
        generalize backN kl kf ⟨bytesV h, 0⟩ 0 = n at hb hn
        rw [hb] at hafter
        by_cases hfull : n = (bytesV h).size
        · refine .inr ⟨hafter.2 h (by omega) (by omega) ?_ hnew, .inr rfl⟩
          have : (bytesV h).extract 0 n = bytesV h := by rw [hfull]; exact ByteArray.extract_zero_size
          show (ofV ((bytesV h).extract 0 n).data.toList).1 = h
          rw [this, ofV_bytes hm]
        · refine .inl ⟨hafter.1 ?_, .inr (.inl rfl)⟩
          show (ofV ((bytesV h).extract 0 n).data.toList).1 = HV.zero
          rw [ofV_torn hm (by omega)]
    · refine ⟨by rw [pd]; rfl, hoth, .inl ⟨hafter.1 ?_, .inl rfl⟩⟩
      rw [hz _ rfl pt]
      show (ofV []).1 = HV.zero
      rw [ofV_nil]
    · refine ⟨by rw [pd]; rfl, hoth, .inr ⟨hafter.2 h (by omega) (by omega) ?_ hnew, .inl rfl⟩⟩
      rw [hz _ rfl pt]
      show (ofV (bytesV h).data.toList).1 = h
      rw [ofV_bytes hm]
theorem load_firm (f : Nat → ByteArray × ByteArray) (c : Int) (n : Nat) (h : ∀ i, i < n → (f i).2 = ⟨#[]⟩) (k : Nat) : ((loadD f c n).tp k).b.size = ((loadD f c n).tp k).firm := by
  show (loadT f n k).b.size = (loadT f n k).firm
  unfold loadT
  split
  · rename_i hk
    rw [h k hk]
    show ((f k).1 ++ (⟨#[]⟩ : ByteArray)).size = (f k).1.size
    rw [ByteArray.size_append]
    rfl
  · rfl
end Hd
end Go.Proofs.YtpfoekfbcpinlaaGreatDoor
/- vault.all: one closure behind the other, up to the first one that errs. -/
namespace Go.Proofs.YtpfoekfbcpinlaaGreatDoor
open Go.RowKit
set_option linter.unusedVariables false

set_option maxRecDepth 20000 in
theorem all_any (a : Addr) (n cap : Nat) (fid : Nat → FuncId) (b c : Nat → Array Value) (S : Nat → World → Prop) (T : Int → World → Prop) (w : World) (hn : n ≤ 1000)
    (h0 : S 0 w) (hrow : ∀ W i, i < n → S i W → W.cell? (a.add i) = some (.func (.func (fid i)) (b i) (c i)))
    (hent : ∀ W i, i < n → (callFunc (fid i) (b i ++ c i)).run Tryz.prog W = .ok (.enter (fid i) (b i ++ c i)) W)
    (hstep : ∀ W i, i < n → S i W → Calls Tryz.prog (fid i) (b i ++ c i) W fun e W' => ∃ z : Int, e = .returned (.int .i64 z) ∧ ((z = 0 ∧ S (i + 1) W') ∨ (z ≠ 0 ∧ T z W'))) :
    Calls Tryz.prog 57 #[.slice (some a) n cap] w fun e w' => ∃ z : Int, e = .returned (.int .i64 z) ∧ ((z = 0 ∧ S n w') ∨ (z ≠ 0 ∧ T z w')) := by
  have H0 := Kp.mk h0
  have HR := Kp.mk hrow
  have HS := Kp.mk hstep
  have HE := Kp.mk hent
  clear h0 hrow hstep hent
  go_enter Tryz.func57, Tryz.ntmps57
  go_wp2
  go_loopw [8] (fun i wr => ∃ k : Nat, i = .int .i64 k ∧ k ≤ n ∧ S k wr) (fun i _ => n - (intOf i).toNat)
  case atStart => exact ⟨0, rfl, by omega, H0.out⟩
  case round =>
    obtain ⟨k, rfl, hk, hs⟩ := hrel
    by_cases hk2 : k < n
    · have hc := HR.out wr k hk2 hs
      have HC := Kp.mk (HS.out wr k hk2 hs)
      have HEn := Kp.mk (HE.out wr k hk2)
      generalize fid k = f at hc HC HEn
      generalize b k = bk at hc HC HEn
      generalize c k = ck at hc HC HEn
      have i1 : (0 : Int) ≤ (k : Int) := by omega
      have i2 : (k : Int) < (n : Int) := by omega
      clear hs
      go_wp2_with fail
      rw [HEn.out, Oper.upon_enter]
      refine HC.out.mono ?_
      rintro e w1 ⟨z, rfl, hz⟩
      have HZ := Kp.mk hz
      clear hz hc HC HEn
      by_cases h0 : z = 0
      · subst h0
        have HS1 : Kp (S (k + 1) w1) := ⟨HZ.out.elim (fun h => h.2) (fun h => absurd rfl h.1)⟩
        go_wp2
        go_roundw
        case rel => exact ⟨k + 1, by go_num, by omega, HS1.out⟩
        case measure => simp [intOf]; omega
      · have HT1 : Kp (T z w1) := ⟨HZ.out.elim (fun h => absurd h.1 h0) (fun h => h.2)⟩
        have t1 : (z == 0) = false := by rw [beq_eq_false_iff_ne]; exact h0
        go_wp2
        go_ret
        exact ⟨z, rfl, .inr ⟨h0, HT1.out⟩⟩
    · obtain rfl : k = n := by omega
      go_wp2
      go_ret
      exact ⟨0, rfl, .inl ⟨rfl, hs⟩⟩
theorem ent_test (W : World) (p : Value) : (callFunc 58 (#[] ++ #[p])).run Tryz.prog W = .ok (.enter 58 (#[] ++ #[p])) W := by
  kernel_rfl
end Go.Proofs.YtpfoekfbcpinlaaGreatDoor
/- A vault as it lies in memory, with its disk; Count, Since, last, sync, used, Clone, Head. -/
namespace Go.Proofs.YtpfoekfbcpinlaaGreatDoor
open Go.RowKit
set_option linter.unusedVariables false

/-- What a call may do: write blocks g and v, lay new ones. -/
structure Ch2 (w w' : World) (g v : Nat) : Prop where
  os : w'.os = w.os
  tape : w'.tape = w.tape
  output : w'.output = w.output
  size : w.heap.size ≤ w'.heap.size
  block : ∀ k, k < w.heap.size → k ≠ g → k ≠ v → w'.heap[k]? = w.heap[k]?
theorem Ch2.trans {w w1 w2 : World} {g v : Nat} (h : Ch2 w w1 g v) (h1 : Ch2 w1 w2 g v) : Ch2 w w2 g v :=
  ⟨h1.os.trans h.os, h1.tape.trans h.tape, h1.output.trans h.output, Nat.le_trans h.size h1.size, fun k hk a b => (h1.block k (Nat.lt_of_lt_of_le hk h.size) a b).trans (h.block k hk a b)⟩
theorem Ch2.of_below {w w' : World} (h : Below w.heap.size w w') (g v : Nat) : Ch2 w w' g v := ⟨h.os, h.tape, h.output, h.size, fun k hk _ _ => h.block k hk⟩
theorem Ch2.refl (w : World) (g v : Nat) : Ch2 w w g v := Ch2.of_below (Below.refl _ _) g v
theorem Ch2.alloc (w : World) (o : Obj) (g v : Nat) : Ch2 w (w.alloc o) g v := Ch2.of_below ((Below.refl _ _).alloc (Nat.le_refl _) _) g v
theorem Ch2.setv (w : World) (g v j : Nat) (u : Value) : Ch2 w (w.setCell ⟨v, j, none⟩ u) g v := ⟨rfl, rfl, rfl, by simp, fun k _ _ b => Below.heap_setCell w ⟨v, j, none⟩ u k b⟩
theorem Ch2.drewN (w : World) (n g v : Nat) : Ch2 w (w.drewN n) g v := ⟨rfl, rfl, rfl, Nat.le_refl _, fun _ _ _ _ => rfl⟩
theorem Ch2.dr {w w' : World} {g v : Nat} (h : Ch2 w w' g v) : Ch2 w w'.drew g v := ⟨h.os, h.tape, h.output, h.size, h.block⟩
theorem Ch2.of_chg {w w' : World} {g : Nat} (h : Chg w w' g) (v : Nat) : Ch2 w w' g v := ⟨h.os, h.tape, h.output, h.size, fun k hk a _ => h.block k hk (fun e => a (Option.some.inj e))⟩
theorem Ch2.below {B g v : Nat} {w0 w w' : World} (h : Ch2 w w' g v) (h0 : Below B w0 w) (hB : B ≤ w.heap.size) (hg : B ≤ g) (hv : B ≤ v) : Below B w0 w' :=
  ⟨h.os.trans h0.os, h.tape.trans h0.tape, h.output.trans h0.output, Nat.le_trans h0.size h.size, fun k hk => (h.block k (by omega) (by omega) (by omega)).trans (h0.block k hk)⟩
/-- The vault lies in block v; its disk in g. -/
structure VltAt (w : World) (g v : Nat) (q : HdV) (m : Int) (n : Nat) : Prop where
  box : w.heap[v]? = some (.cells #[.pointer (some ⟨g, 0, none⟩), .int .i64 q.gen, .int .i64 q.base, .int .i64 q.snap, .slice q.lo q.ll q.lc, .int .i64 m, .int .i64 n] 81 (0, 0))
  row : RK 1 w (.slice q.lo q.ll q.lc) q.ll (numL q.lf q.ll)
  off : ∀ k, blk (.slice q.lo q.ll q.lc) = some k → k ≠ g ∧ k ≠ v
  ne : g ≠ v
  few : q.ll ≤ 31
def TabK (w : World) (g v : Nat) : Prop := ∀ W, Ch2 w W g v → Tab W
theorem TabK.next {w w' : World} {g v : Nat} (h : TabK w g v) (c : Ch2 w w' g v) : TabK w' g v := fun W hW => h W (c.trans hW)
theorem TabK.now {w : World} {g v : Nat} (h : TabK w g v) : Tab w := h w (Ch2.refl _ _ _)
section
variable {w w' : World} {g v : Nat} {q : HdV} {m : Int} {n : Nat}
theorem VltAt.lt (h : VltAt w g v q m n) : v < w.heap.size := lt_of_block' h.box
theorem VltAt.c0 (h : VltAt w g v q m n) : w.cell? ⟨v, 0, none⟩ = some (.pointer (some ⟨g, 0, none⟩)) := by simp [World.cell?, h.box]
theorem VltAt.c1 (h : VltAt w g v q m n) : w.cell? ⟨v, 1, none⟩ = some (.int .i64 q.gen) := by simp [World.cell?, h.box]
theorem VltAt.c2 (h : VltAt w g v q m n) : w.cell? ⟨v, 2, none⟩ = some (.int .i64 q.base) := by simp [World.cell?, h.box]
theorem VltAt.c3 (h : VltAt w g v q m n) : w.cell? ⟨v, 3, none⟩ = some (.int .i64 q.snap) := by simp [World.cell?, h.box]
theorem VltAt.c4 (h : VltAt w g v q m n) : w.cell? ⟨v, 4, none⟩ = some (.slice q.lo q.ll q.lc) := by simp [World.cell?, h.box]
theorem VltAt.c5 (h : VltAt w g v q m n) : w.cell? ⟨v, 5, none⟩ = some (.int .i64 m) := by simp [World.cell?, h.box]
theorem VltAt.c6 (h : VltAt w g v q m n) : w.cell? ⟨v, 6, none⟩ = some (.int .i64 n) := by simp [World.cell?, h.box]
theorem VltAt.free (h : VltAt w g v q m n) (j : Nat) : w.frozen? ⟨v, j, none⟩ = false := by simp [World.frozen?, h.box]
theorem VltAt.same (h : VltAt w g v q m n) (hz : w.heap.size ≤ w'.heap.size) (hb : ∀ k, k < w.heap.size → k ≠ g → w'.heap[k]? = w.heap[k]?) : VltAt w' g v q m n :=
  ⟨(hb v h.lt (fun e => h.ne e.symm)).trans h.box, h.row.same hz fun k hk => hb k (h.row.lt k hk) (h.off k hk).1, h.off, h.ne, h.few⟩
theorem VltAt.below (h : VltAt w g v q m n) (hb : Below w.heap.size w w') : VltAt w' g v q m n := h.same hb.size fun k hk _ => hb.block k hk
theorem VltAt.chg (h : VltAt w g v q m n) (c : Chg w w' g) : VltAt w' g v q m n := h.same c.size fun k hk hne => c.block k hk (fun e => hne (Option.some.inj e))
theorem VltAt.alloc (h : VltAt w g v q m n) (o : Obj) : VltAt (w.alloc o) g v q m n := h.below ((Below.refl _ _).alloc (Nat.le_refl _) _)
theorem VltAt.own (h : VltAt w g v q m n) : HdOwn 0 w q := ⟨h.row, fun _ _ => Nat.zero_le _, h.few⟩
theorem VltAt.at' (h : VltAt w g v q m n) : HdAt w q := h.own.at'
theorem v_cells {a b c d e f x : Value} {T : TypeId} (h : w.heap[v]? = some (.cells #[a, b, c, d, e, f, x] T (0, 0))) (j : Nat) (u : Value) : (w.setCell ⟨v, j, none⟩ u).heap[v]? = some (.cells (#[a, b, c, d, e, f, x].setIfInBounds j u) T (0, 0)) := by
  show (w.heap.modify v _)[v]? = _
  rw [Array.getElem?_modify]
  simp [h]
theorem VltAt.since (h : VltAt w g v q m n) (k : Nat) : VltAt (w.setCell ⟨v, 6, none⟩ (.int .i64 k)) g v q m k :=
  ⟨v_cells h.box 6 _, h.row.set _ _ fun j hj => (h.off j hj).2, h.off, h.ne, h.few⟩
/-- A new head: its row is of the call's own. -/
theorem VltAt.head (h : VltAt w g v q m n) {p : HdV} (hp : RK 1 w (.slice p.lo p.ll p.lc) p.ll (numL p.lf p.ll)) (ho : ∀ k, blk (.slice p.lo p.ll p.lc) = some k → k ≠ g ∧ k ≠ v) (hf : p.ll ≤ 31) :
    VltAt ((((w.setCell ⟨v, 1, none⟩ (.int .i64 p.gen)).setCell ⟨v, 2, none⟩ (.int .i64 p.base)).setCell ⟨v, 3, none⟩ (.int .i64 p.snap)).setCell ⟨v, 4, none⟩ (.slice p.lo p.ll p.lc)) g v p m n :=
  ⟨v_cells (v_cells (v_cells (v_cells h.box 1 _) 2 _) 3 _) 4 _, (((hp.set _ _ fun j hj => (ho j hj).2).set _ _ fun j hj => (ho j hj).2).set _ _ fun j hj => (ho j hj).2).set _ _ fun j hj => (ho j hj).2, ho, h.ne, hf⟩
end
/-- The vault and its disk. -/
structure VS (w : World) (g v : Nat) (D : DiskV) (q : HdV) (m : Int) (n : Nat) : Prop where
  disk : DiskAt w g D
  vlt : VltAt w g v q m n
  ok : Ok D
  tab : TabK w g v
section
variable {w w' : World} {g v : Nat} {D E : DiskV} {q : HdV} {m : Int} {n : Nat}
theorem VS.below (h : VS w g v D q m n) (hb : Below w.heap.size w w') : VS w' g v D q m n := ⟨h.disk.below hb, h.vlt.below hb, h.ok, h.tab.next (Ch2.of_below hb g v)⟩
theorem VS.alloc (h : VS w g v D q m n) (o : Obj) : VS (w.alloc o) g v D q m n := h.below ((Below.refl _ _).alloc (Nat.le_refl _) _)
theorem VS.drew (h : VS w g v D q m n) : VS w.drew g v D q m n := h.below ((Below.refl _ _).drew)
theorem VS.drewN (h : VS w g v D q m n) (k : Nat) : VS (w.drewN k) g v D q m n := h.below ⟨rfl, rfl, rfl, Nat.le_refl _, fun _ _ => rfl⟩
theorem VS.chg (h : VS w g v D q m n) (c : Chg w w' g) (d : DiskAt w' g E) (o : Ok E) : VS w' g v E q m n := ⟨d, h.vlt.chg c, o, h.tab.next (Ch2.of_chg c v)⟩
end
theorem Count_any (g v : Nat) (D : DiskV) (q : HdV) (m : Int) (n : Nat) (w : World) (h : VS w g v D q m n) (h0 : 0 ≤ q.base) (h1 : q.base + n ≤ 9000000000000000000) :
    Calls Tryz.prog 22 #[.pointer (some ⟨v, 0, none⟩)] w fun e w' => e = .returned (.int .i64 (q.base + n)) ∧ ∃ k, w' = w.drewN k := by
  have k2 := h.vlt.c2
  have k6 := h.vlt.c6
  clear h
  generalize q.base = ba at *
  go_enter Tryz.func22, Tryz.ntmps22
  go_wp2_with fail
  go_quiet (fail)
  go_wp2
  go_ret
  exact ⟨by go_num, _, rfl⟩
theorem Since_any (g v : Nat) (D : DiskV) (q : HdV) (m : Int) (n : Nat) (w : World) (h : VS w g v D q m n) :
    Calls Tryz.prog 23 #[.pointer (some ⟨v, 0, none⟩)] w fun e w' => e = .returned (.int .i64 n) ∧ w' = w := by
  have k6 := h.vlt.c6
  clear h
  go_enter Tryz.func23, Tryz.ntmps23
  go_wp2
  go_ret
  exact ⟨rfl, rfl⟩
/-- The last one of the log's tapes. -/
def lastT (h : Hd.HV) : Int := h.log.getLastD 0
theorem lastT_row {f : Nat → Int} {k : Nat} {a b c : Int} : lastT ⟨a, b, c, rowI f (k + 1)⟩ = f k := by
  unfold lastT
  rw [rowI_succ]
  simp
theorem last_any (g v : Nat) (D : DiskV) (q : HdV) (m : Int) (n : Nat) (w : World) (h : VS w g v D q m n) (hl : 0 < q.ll) :
    Calls Tryz.prog 47 #[.pointer (some ⟨v, 0, none⟩)] w fun e w' => e = .returned (.int .i64 (lastT q.hv)) ∧ ∃ k, w' = w.drewN k := by
  have k4 := h.vlt.c4
  have hf := h.vlt.few
  obtain ⟨b, cap, hv, h1, h2, _, _⟩ := h.vlt.row.at_ hl
  have hc := fun j (hj : j < q.ll) => (hv ▸ h.vlt.row).cell j _ (numL_get q.lf q.ll j hj)
  obtain ⟨k, hk⟩ : ∃ k, q.ll = k + 1 := ⟨q.ll - 1, by omega⟩
  have hV : Kp (lastT q.hv = q.lf k) := ⟨by unfold HdV.hv; rw [hk]; exact lastT_row⟩
  have c1 := hc k (by omega)
  rw [hv, hk] at k4
  have i1 : (0 : Int) ≤ (k : Int) := by omega
  have i2 : (k : Int) < ((k + 1 : Nat) : Int) := by omega
  have n1 : IntKind.i64.wrap (((k + 1 : Nat) : Int) - 1) = (k : Int) := by rw [IntKind.wrap_i64]; omega
  have n2 : ((k + 1 : Nat) : Int) - 1 = (k : Int) := by omega
  rw [hV.out]
  generalize q.lf k = x at *
  clear h hc hv hV
  go_enter Tryz.func47, Tryz.ntmps47
  go_wp2_with fail
  go_quiet (fail)
  go_wp2
  go_ret
  exact ⟨rfl, _, rfl⟩
theorem used_any (g v : Nat) (D : DiskV) (q : HdV) (m : Int) (n : Nat) (t : Int) (w : World) (h : VS w g v D q m n) :
    Calls Tryz.prog 68 #[.pointer (some ⟨v, 0, none⟩), .int .i64 t] w fun e w' => e = .returned (.bool (q.hv.uses t)) ∧ Below w.heap.size w w' := by
  have k1 := h.vlt.c1
  have k2 := h.vlt.c2
  have k3 := h.vlt.c3
  have k4 := h.vlt.c4
  have HU := Kp.mk (Uses_any q t w (by have := h.vlt.few; unfold maxLen; omega) h.vlt.at'.row)
  generalize q.hv.uses t = b at HU ⊢
  unfold HdV.v at HU
  clear h
  go_enter Tryz.func68, Tryz.ntmps68
  go_wp2_with fail
  refine HU.out.mono ?_
  rintro e w1 ⟨rfl, b1⟩
  have B1 := Kp.mk b1
  clear b1
  go_wp2
  go_ret
  exact ⟨rfl, B1.out⟩
theorem Clone_any (q : HdV) (w : World) (h : RK 1 w (.slice q.lo q.ll q.lc) q.ll (numL q.lf q.ll)) (hf : q.ll ≤ 31) :
    Calls Tryz.prog 50 #[.slice q.lo q.ll q.lc] w fun e w' => ∃ ao cap, e = .returned (.slice ao q.ll cap) ∧ RK 1 w' (.slice ao q.ll cap) q.ll (numL q.lf q.ll) ∧ Below w.heap.size w w' ∧ ∀ k, blk (.slice ao q.ll cap) = some k → w.heap.size ≤ k := by
  have q22 : ∀ (w : World) (a : Option Addr) (n c n' c' : Nat), (binOp .eql 36 (.slice a n c) (.slice none n' c')).run Tryz.prog w = .ok (.bool a.isNone) w := fun w a n c n' c' => Lib.run_eql_slice_nil w _ _ a n c n' c' Tryz.underlying36
  rcases h.2 with ⟨hv, hn⟩ | ⟨g, cap, hv, h2, h3, h4⟩
  · simp only [Value.slice.injEq] at hv
    obtain ⟨e1, e2, e3⟩ := hv
    rw [e1, e2, e3] at h ⊢
    have HR := Kp.mk h
    clear h
    go_enter Tryz.func50, Tryz.ntmps50
    go_wp2
    go_ret
    exact ⟨none, 0, rfl, HR.out, Below.refl _ _, fun k hk => by simp [blk] at hk⟩
  · obtain ⟨i0, hi0, hi1, hi2, hi3⟩ := info_parts infoInt
    have HI := Kp.mk (And.intro hi0 (And.intro hi1 (And.intro hi2 hi3)))
    have HSr := Kp.mk (fun o => (h.alloc o).src)
    have HL := Kp.mk hf
    have hlo : q.lo = some ⟨g, 0, none⟩ := by simp only [Value.slice.injEq] at hv; exact hv.1
    rw [hlo] at HSr ⊢
    clear hi0 hi1 hi2 hi3 h h2 h3 h4 hv hlo
    go_enter Tryz.func50, Tryz.ntmps50
    go_wp2_with (at_builtin; go_loud (refine wpList_append_src rfl _ _ 36 rfl (RK.empty 1 _ w.heap.size) (HSr.out _) 3 i0 _ 8 Tryz.underlying36 HI.out.1 HI.out.2.1 HI.out.2.2.1 HI.out.2.2.2 rfl (by decide) (by rfl) (by rfl) (num_one _) (by have := HL.out; unfold maxLen; omega) (by have := HL.out; omega) q.ll (numL q.lf q.ll) (Nat.zero_add _) (List.nil_append _) ?_; intro a2 c2 w2 r1 g1 f1; have N2 := Kp.mk (New.of (w := w) (B := w.heap.size) ((Below.refl _ _).alloc (Nat.le_refl _) _) (by simp) g1 f1 (blk_none _ _)); have R1 := Kp.mk r1; clear g1 f1 r1))
    go_ret
    exact ⟨a2, c2, rfl, R1.out, N2.out.below, N2.out.new⟩
end Go.Proofs.YtpfoekfbcpinlaaGreatDoor
