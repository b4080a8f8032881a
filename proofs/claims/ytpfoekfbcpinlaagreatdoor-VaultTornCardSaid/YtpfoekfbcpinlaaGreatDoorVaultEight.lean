/- vault: sync, bytes, loose, wipe. -/
import Derived.Test.YtpfoekfbcpinlaaGreatDoorVault
import Derived.BigQuiet
namespace Go.Proofs.YtpfoekfbcpinlaaGreatDoor
open Go.RowKit
set_option linter.unusedVariables false

theorem syncV_ok {D : DiskV} (h : Ok D) (t : Int) : Ok (syncV D t).2 := h.sync t
set_option maxRecDepth 20000 in
theorem vsync_any (g v : Nat) (D : DiskV) (q : HdV) (m : Int) (n : Nat) (w : World) (h : VS w g v D q m n) (hl : 0 < q.ll) :
    Calls Tryz.prog 49 #[.pointer (some ⟨v, 0, none⟩)] w fun e w' => e = .returned (.int .i64 (syncV D (lastT q.hv)).1) ∧ VS w' g v (syncV D (lastT q.hv)).2 q m n ∧ Ch2 w w' g v := by
  have k0 := h.vlt.c0
  have HL := Kp.mk (fun W (hW : Below w.heap.size w W) => (last_any g v D q m n W (h.below hW) hl).mono fun e w' (hh : _ ∧ ∃ k, w' = W.drewN k) => And.intro hh.1 (show Below w.heap.size w w' from by obtain ⟨_, k, rfl⟩ := hh; exact ⟨hW.os, hW.tape, hW.output, hW.size, hW.block⟩))
  have HS := Kp.mk (fun W (hW : Below w.heap.size w W) => (Sync_any g D (lastT q.hv) W (h.below hW).disk h.ok).mono fun e w' (hh : _ ∧ _ ∧ _) => And.intro hh.1 (And.intro ((h.below hW).chg hh.2.2 hh.2.1 (h.ok.sync _)) ((Ch2.of_below hW g v).trans (Ch2.of_chg hh.2.2 v))))
  have HK : Kp (∀ W, Below w.heap.size w W → W.cell? ⟨v, 0, none⟩ = some (.pointer (some ⟨g, 0, none⟩))) := ⟨fun W hW => (h.below hW).vlt.c0⟩
  clear h
  generalize lastT q.hv = t at *
  have BX := Kp.mk (Below.refl w.heap.size w)
  go_enter Tryz.func49, Tryz.ntmps49
  go_wp2_with fail
  go_region_held3 (fun w' => w'.cell? ⟨v, 0, none⟩ = some (.pointer (some ⟨g, 0, none⟩))) (go_keep)
    (first
      | (go_at_call 47; refine (HL.out _ (by first | exact BX.out | exact BX.out.drew)).mono ?_; rintro e wu ⟨rfl, hbu⟩; have BX := Kp.mk hbu; have k0 := HK.out _ hbu; clear hbu)
      | (go_at_call 16; refine (HS.out _ (by first | exact BX.out | exact BX.out.drew)).mono ?_; rintro e wu ⟨rfl, vs1, c1⟩; have k0 := vs1.vlt.c0; have H1 := Kp.mk (And.intro vs1 c1); clear vs1 c1))
  go_wp2
  go_ret
  exact ⟨rfl, H1.out.1, H1.out.2⟩
/-- How many bytes each tape has. -/
def sizeF (D : DiskV) : Nat → Int := fun t => ((D.tp t).b.size : Int)
theorem tape_row {w : World} {ao : Option Addr} {cap : Nat} {D : DiskV} (h : RK 2 w (.slice ao 32 cap) 32 (trow (tapesL D 32))) : ∃ q, ao = some ⟨q, 0, none⟩ ∧ ∀ W, Below w.heap.size w W → ∀ k, k < 32 → W.cell? ⟨q, k * 2, none⟩ = some (.string (told (D.tp k)).1) ∧ W.cell? ⟨q, k * 2 + 1, none⟩ = some (.string (told (D.tp k)).2) := by
  obtain ⟨q, cp, hv, _, _, _, _⟩ := h.at_ (by decide)
  simp only [Value.slice.injEq] at hv
  obtain ⟨rfl, _, rfl⟩ := hv
  refine ⟨q, rfl, fun W hW k hk => ?_⟩
  have h' := h.below hW
  have hg := trow_get (tapesL D 32) k (by rw [tapesL_len]; exact hk)
  have e : (tapesL D 32)[k]'(by rw [tapesL_len]; exact hk) = told (D.tp k) := by simp [tapesL]
  rw [e] at hg
  exact ⟨h'.cell _ _ hg.1, h'.cell _ _ hg.2⟩
theorem told_sz {x : TapeV} (h : x.firm ≤ x.b.size) : (told x).1.size + (told x).2.size = x.b.size := by
  unfold told
  simp only [ByteArray.size_extract]
  omega
set_option maxRecDepth 20000 in
set_option maxHeartbeats 1000000 in
theorem bytes_any (g : Nat) (D : DiskV) (w : World) (h : DiskAt w g D) (ho : Ok D) :
    Calls Tryz.prog 46 #[.pointer (some ⟨g, 0, none⟩)] w fun e w' => ∃ ao cap, e = .returned (.slice ao 32 cap) ∧ RK 1 w' (.slice ao 32 cap) 32 (numL (sizeF D) 32) ∧ New w.heap.size w w' (.slice ao 32 cap) := by
  obtain ⟨i0, hi0, hi1, hi2, hi3⟩ := info_parts infoInt
  have HI0 := Kp.mk (And.intro hi0 (And.intro hi1 (And.intro hi2 hi3)))
  clear hi0 hi1 hi2 hi3
  have HT := Kp.mk (Tapes_any g D w h ho)
  have HO := Kp.mk ho
  clear h ho
  go_enter Tryz.func46, Tryz.ntmps46
  go_wp2_with fail
  refine HT.out.mono ?_
  rintro e w1 ⟨to, tc, rfl, hr, hn⟩
  obtain ⟨tq, rfl, htq⟩ := tape_row hr
  have HQ := Kp.mk htq
  have B1 : Kp (Below w.heap.size w w1) := ⟨hn.below⟩
  clear hr hn htq HT
  go_wp2
  go_loopw [3, 9] (fun s i wr => ∃ (k : Nat) (ao : Option Addr) (cap : Nat), i = .int .i64 k ∧ k ≤ 32 ∧ s = .slice ao k cap ∧ RK 1 wr (.slice ao k cap) k (numL (sizeF D) k) ∧ New w.heap.size w wr (.slice ao k cap) ∧ Below w1.heap.size w1 wr ∧ ∀ j, blk (.slice ao k cap) = some j → w1.heap.size ≤ j) (fun _ i _ => 32 - (intOf i).toNat)
  case atStart => exact ⟨0, none, 0, rfl, by omega, rfl, RK.nil 1 _, ⟨B1.out, fun k hk => by simp [blk] at hk⟩, Below.refl _ _, fun k hk => by simp [blk] at hk⟩
  case round =>
    obtain ⟨k, ao, cap, rfl, hk, rfl, hr, hn, hb, hn1⟩ := hrel
    by_cases hk2 : k < 32
    · obtain ⟨a1, a2⟩ := HQ.out wr hb k hk2
      have hf := HO.out.firm k hk2
      have hm := HO.out.most k hk2
      have hs := told_sz hf
      have hz : Kp (numL (sizeF D) (k + 1) = numL (sizeF D) k ++ [.int .i64 (D.tp k).b.size]) := ⟨by unfold numL; rw [rowI_succ, List.map_append]; rfl⟩
      rw [← hs, Int.natCast_add] at hz
      rw [← hs] at hm
      generalize told (D.tp k) = p at a1 a2 hm hz
      obtain ⟨x, y⟩ := p
      simp only [] at a1 a2 hm hz
      have R := Kp.mk hr
      have N := Kp.mk hn
      have B := Kp.mk hb
      have i1 : (0 : Int) ≤ (k : Int) := by omega
      have i2 : (k : Int) < 32 := by omega
      have HB2 : Kp (∀ o1 o2, Below wr.heap.size wr ((wr.alloc o1).alloc o2)) := ⟨fun o1 o2 => ((Below.refl _ _).alloc (Nat.le_refl _) _).alloc (by simp) _⟩
      have HSrc : Kp (∀ o1 T, Src 1 ((wr.alloc o1).alloc (.cells #[.int .i64 ((x.size : Int) + (y.size : Int))] T)) (.slice (some ⟨wr.heap.size + 1, 0, none⟩) 1 1) 1 [.int .i64 ((x.size : Int) + (y.size : Int))]) := ⟨fun o1 T => src_one (heap_second wr _ _) rfl⟩
      have HKl := Kp.mk hk2
      have HBt : Kp (Below w1.heap.size w1 wr) := ⟨hb⟩
      have HNl : Kp (∀ j, blk (.slice ao k cap) = some j → w1.heap.size ≤ j) := ⟨hn1⟩
      clear hr hn hb hf hs hn1
      go_wp2_with (at_builtin; go_loud (refine wpList_append_src rfl _ _ 36 rfl (R.out.below (HB2.out _ _)) (HSrc.out _ _) 3 i0 _ 8 Tryz.underlying36 HI0.out.1 HI0.out.2.1 HI0.out.2.2.1 HI0.out.2.2.2 rfl (by decide) (by rfl) (by rfl) (num_one [(x.size : Int) + (y.size : Int)]) (by have := HKl.out; unfold maxLen; omega) (by have := HKl.out; omega) (k + 1) (numL (sizeF D) (k + 1)) rfl hz.out.symm ?_; intro a3 c3 w3 r3 g3 f3; have N3 := Kp.mk (New.of (w := w) (B := w.heap.size) (N.out.below.trans ((HB2.out _ _).mono N.out.below.size)) (by simp; have := N.out.below.size; omega) g3 f3 N.out.new); have N4 := Kp.mk (New.of (w := w1) (B := w1.heap.size) (HBt.out.trans ((HB2.out _ _).mono HBt.out.size)) (by simp; have := HBt.out.size; omega) g3 f3 HNl.out); have R3 := Kp.mk r3; clear g3 f3 r3))
      go_roundw
      case rel => exact ⟨k + 1, a3, c3, by go_num, by omega, by go_num, R3.out, N3.out, N4.out.below, N4.out.new⟩
      case measure => simp [intOf]; omega
    · obtain rfl : k = 32 := by omega
      have R := Kp.mk hr
      have N := Kp.mk hn
      clear hr hn hb hn1
      go_wp2
      go_ret
      exact ⟨ao, cap, rfl, R.out, N.out⟩
/-- What loose syncs, tape by tape. -/
def looseS (D : DiskV) (is : Nat → Bool) : Nat → Int × DiskV
  | 0 => (0, D)
  | k + 1 => if (looseS D is k).1 ≠ 0 then looseS D is k else if (told (D.tp k)).2.size = 0 ∨ is k = false then looseS D is k else syncV (looseS D is k).2 k
theorem looseS_err {D : DiskV} {is : Nat → Bool} {k : Nat} (h : (looseS D is k).1 ≠ 0) : ∀ j, k ≤ j → looseS D is j = looseS D is k
  | 0, hj => by obtain rfl : k = 0 := by omega
                rfl
  | j + 1, hj => by
    rcases Nat.lt_or_ge j k with h1 | h1
    · obtain rfl : k = j + 1 := by omega
      rfl
    · have ih := looseS_err h j h1
      rw [looseS, ih, if_pos h]
theorem looseS_ok {D : DiskV} (h : Ok D) (is : Nat → Bool) : ∀ k, Ok (looseS D is k).2
  | 0 => h
  | k + 1 => by
    rw [looseS]
    split
    · exact looseS_ok h is k
    · split
      · exact looseS_ok h is k
      · exact (looseS_ok h is k).sync _
theorem size0 {b : ByteArray} : b.size = 0 ↔ b = ⟨#[]⟩ := by
  constructor
  · intro h
    apply ByteArray.ext
    apply Array.ext'
    have : b.data.size = 0 := h
    have := Array.eq_empty_of_size_eq_zero this
    rw [this]
  · rintro rfl; rfl
set_option maxRecDepth 20000 in
set_option maxHeartbeats 2000000 in
theorem loose_any (g v : Nat) (D : DiskV) (q : HdV) (m : Int) (n : Nat) (w : World) (h : VS w g v D q m n) (fid : FuncId) (b c : Array Value) (is : Nat → Bool)
    (hent : ∀ W t, (callFunc fid (b.push t ++ c)).run Tryz.prog W = .ok (.enter fid (b.push t ++ c)) W)
    (his : ∀ W E (t : Nat), t < 32 → VS W g v E q m n → Calls Tryz.prog fid (b.push (.int .i64 t) ++ c) W fun e w' => e = .returned (.bool (is t)) ∧ Below W.heap.size W w') :
    Calls Tryz.prog 59 #[.pointer (some ⟨v, 0, none⟩), .func (.func fid) b c] w fun e w' => e = .returned (.int .i64 (looseS D is 32).1) ∧ VS w' g v (looseS D is 32).2 q m n ∧ Ch2 w w' g v := by
  have HT := Kp.mk (Tapes_any g D w h.disk h.ok)
  have HO := Kp.mk h.ok
  have H0 := Kp.mk h
  have k0 := h.vlt.c0
  have HE := Kp.mk hent
  have HI := Kp.mk his
  clear h hent his
  go_enter Tryz.func59, Tryz.ntmps59
  go_wp2_with fail
  refine HT.out.mono ?_
  rintro e w1 ⟨to, tc, rfl, hr, hn⟩
  obtain ⟨tq, rfl, htq⟩ := tape_row hr
  obtain ⟨tq', _, hv', _, _, hltq, hbk⟩ := hr.at_ (by decide)
  have hnew := hn.new _ hbk
  simp only [Value.slice.injEq, Option.some.injEq, Addr.mk.injEq] at hv'
  obtain ⟨⟨rfl, _⟩, _⟩ := hv'
  have HQ := Kp.mk htq
  have HNE : Kp (tq ≠ g ∧ tq ≠ v) := ⟨by have := H0.out.disk.lt; have := H0.out.vlt.lt; omega⟩
  have H1 := Kp.mk (H0.out.below hn.below)
  have C1 := Kp.mk (Ch2.of_below hn.below g v)
  have HQ2 : Kp (∀ W, Ch2 w1 W g v → ∀ k, k < 32 → W.cell? ⟨tq, k * 2, none⟩ = some (.string (told (D.tp k)).1) ∧ W.cell? ⟨tq, k * 2 + 1, none⟩ = some (.string (told (D.tp k)).2)) := ⟨fun W hW k hk => by
    obtain ⟨z1, z2⟩ := HQ.out w1 (Below.refl _ _) k hk
    have hb := hW.block tq hltq HNE.out.1 HNE.out.2
    exact ⟨(World.cell?_of_block (a := ⟨tq, k * 2, none⟩) hb).trans z1, (World.cell?_of_block (a := ⟨tq, k * 2 + 1, none⟩) hb).trans z2⟩⟩
  clear hr hn htq HT HQ hnew hbk hltq
  go_wp2
  go_loopw [14] (fun i wr => ∃ k : Nat, i = .int .i64 k ∧ k ≤ 32 ∧ (looseS D is k).1 = 0 ∧ VS wr g v (looseS D is k).2 q m n ∧ Ch2 w1 wr g v) (fun i _ => 32 - (intOf i).toNat)
  case atStart => exact ⟨0, rfl, by omega, rfl, H1.out, Ch2.refl _ _ _⟩
  case round =>
    obtain ⟨k, rfl, hk, he0, hs, hc⟩ := hrel
    have S := Kp.mk hs
    have C := Kp.mk hc
    by_cases hk2 : k < 32
    · obtain ⟨a1, a2⟩ := HQ2.out wr hc k hk2
      have hstep : looseS D is (k + 1) = if (told (D.tp k)).2.size = 0 ∨ is k = false then looseS D is k else syncV (looseS D is k).2 k := by
        rw [looseS, if_neg (by rw [he0]; simp)]
      have HKo := Kp.mk (looseS_ok HO.out is k)
      have HSt := Kp.mk hstep
      have HE0 := Kp.mk he0
      have hKs : ∀ o, VS (wr.alloc o) g v (looseS D is k).2 q m n := fun o => hs.alloc o
      have HIk := Kp.mk (fun o => HI.out (wr.alloc o) _ k hk2 (hKs o))
      have HV0 : Kp (∀ W, VS W g v (looseS D is k).2 q m n → W.cell? ⟨v, 0, none⟩ = some (.pointer (some ⟨g, 0, none⟩))) := ⟨fun W h => h.vlt.c0⟩
      have HSy := Kp.mk (fun W (h : VS W g v (looseS D is k).2 q m n) => (Sync_any g _ k W h.disk h.ok).mono fun e w' (hh : _ ∧ _ ∧ _) => And.intro hh.1 (And.intro (h.chg hh.2.2 hh.2.1 (h.ok.sync _)) (Ch2.of_chg hh.2.2 v)))
      generalize hD1 : looseS D is k = r at S HSt HKo HIk HV0 HSy he0 HE0
      obtain ⟨z, D1⟩ := r
      simp only [] at S HSt HKo HIk HV0 HSy he0 HE0
      subst he0
      have hC1 : Kp (∀ o, Ch2 w1 (wr.alloc o) g v) := ⟨fun o => hc.trans (Ch2.alloc _ _ _ _)⟩
      clear hs hc hKs hstep
      generalize told (D.tp k) = p at a1 a2 HSt
      obtain ⟨x, y⟩ := p
      simp only [] at a1 a2 HSt
      have i1 : (0 : Int) ≤ (k : Int) := by omega
      have i2 : (k : Int) < 32 := by omega
      by_cases hy : y.size = 0
      · have hD2 : Kp (looseS D is (k + 1) = (0, D1)) := ⟨by rw [HSt.out, if_pos (.inl hy)]⟩
        obtain rfl := size0.1 hy
        clear hy
        go_wp2
        go_roundw
        case rel => exact ⟨k + 1, by go_num, by omega, by rw [hD2.out], by rw [hD2.out]; exact S.out.alloc _, hC1.out _⟩
        case measure => simp [intOf]; omega
      · have t1 : y.toList.isEmpty = false := by
          rw [bytes_toList]
          have h1 : y.data.size ≠ 0 := hy
          cases hl : y.data.toList with
          | nil => exact absurd (by simpa using congrArg List.length hl) h1
          | cons _ _ => rfl
        have HEk := Kp.mk (fun W => HE.out W (.int .i64 k))
        have hSt2 : looseS D is (k + 1) = if is k = false then (0, D1) else syncV D1 k := by
          rw [HSt.out]
          by_cases hi : is k = false
          · rw [if_pos (.inr hi), if_pos hi]
          · rw [if_neg (fun h => h.elim hy hi), if_neg hi]
        have HS2 := Kp.mk hSt2
        clear hSt2 HSt hy
        go_wp2_with fail
        rw [HEk.out, Oper.upon_enter]
        refine (HIk.out _).mono ?_
        rintro e w2 ⟨rfl, b2⟩
        have S2 := Kp.mk ((S.out.alloc _).below b2)
        have C2 := Kp.mk ((hC1.out _).trans (Ch2.of_below b2 g v))
        have k02 := HV0.out _ S2.out
        clear b2
        cases hib : is k
        · have hD2 : Kp (looseS D is (k + 1) = (0, D1)) := ⟨by rw [HS2.out, if_pos hib]⟩
          go_wp2
          go_roundw
          case rel => exact ⟨k + 1, by go_num, by omega, by rw [hD2.out], by rw [hD2.out]; exact S2.out, C2.out⟩
          case measure => simp [intOf]; omega
        · have hD2 : Kp (looseS D is (k + 1) = syncV D1 k) := ⟨by rw [HS2.out, if_neg (by rw [hib]; simp)]⟩
          have hEr : Kp ((looseS D is (k + 1)).1 ≠ 0 → looseS D is 32 = looseS D is (k + 1)) := ⟨fun h => looseS_err h 32 (by omega)⟩
          rw [hD2.out] at hEr
          go_wp2_with fail
          refine (HSy.out _ S2.out).mono ?_
          rintro e w3 ⟨rfl, s3, c3⟩
          have S3 := Kp.mk s3
          have C3 := Kp.mk (C2.out.trans c3)
          clear s3 c3 HSy
          generalize syncV D1 k = P at *
          obtain ⟨z, D2⟩ := P
          simp only [] at *
          by_cases hz : z = 0
          · subst hz
            go_wp2
            go_roundw
            case rel => exact ⟨k + 1, by go_num, by omega, by rw [hD2.out], by rw [hD2.out]; exact S3.out, C3.out⟩
            case measure => simp [intOf]; omega
          · have t2 : (z == 0) = false := by rw [beq_eq_false_iff_ne]; exact hz
            have hF : Kp (looseS D is 32 = (z, D2)) := ⟨hEr.out hz⟩
            go_wp2
            go_ret
            exact ⟨by rw [hF.out] <;> rfl, by rw [hF.out]; exact S3.out, C1.out.trans C3.out⟩
    · obtain rfl : k = 32 := by omega
      clear hs hc
      go_wp2
      go_ret
      exact ⟨by rw [he0] <;> rfl, S.out, C1.out.trans C.out⟩
end Go.Proofs.YtpfoekfbcpinlaaGreatDoor
/- vault: wipe, other, Head, put. -/
namespace Go.Proofs.YtpfoekfbcpinlaaGreatDoor
open Go.RowKit
set_option linter.unusedVariables false

/-- What wipe wipes, tape by tape. -/
def wipeS (D : DiskV) (h : Hd.HV) : Nat → Int × DiskV
  | 0 => (0, D)
  | k + 1 => if (wipeS D h k).1 ≠ 0 then wipeS D h k else if k < 2 ∨ (D.tp k).b.size = 0 ∨ h.uses k = true then wipeS D h k else wipeV (wipeS D h k).2 k
theorem wipeS_err {D : DiskV} {hv : Hd.HV} {k : Nat} (h : (wipeS D hv k).1 ≠ 0) : ∀ j, k ≤ j → wipeS D hv j = wipeS D hv k
  | 0, hj => by obtain rfl : k = 0 := by omega
                rfl
  | j + 1, hj => by
    rcases Nat.lt_or_ge j k with h1 | h1
    · obtain rfl : k = j + 1 := by omega
      rfl
    · have ih := wipeS_err h j h1
      rw [wipeS, ih, if_pos h]
theorem wipeS_ok {D : DiskV} (h : Ok D) (hv : Hd.HV) : ∀ k, Ok (wipeS D hv k).2
  | 0 => h
  | k + 1 => by
    rw [wipeS]
    split
    · exact wipeS_ok h hv k
    · split
      · exact wipeS_ok h hv k
      · exact (wipeS_ok h hv k).wipe _
set_option maxRecDepth 20000 in
set_option maxHeartbeats 2000000 in
theorem vwipe_any (g v : Nat) (D : DiskV) (q : HdV) (m : Int) (n : Nat) (w : World) (h : VS w g v D q m n) :
    Calls Tryz.prog 62 #[.pointer (some ⟨v, 0, none⟩)] w fun e w' => e = .returned (.int .i64 (wipeS D q.hv 32).1) ∧ VS w' g v (wipeS D q.hv 32).2 q m n ∧ Ch2 w w' g v := by
  have HT := Kp.mk (bytes_any g D w h.disk h.ok)
  have HO := Kp.mk h.ok
  have H0 := Kp.mk h
  have k0 := h.vlt.c0
  have HUs := Kp.mk (fun W E (t : Nat) (hW : VS W g v E q m n) => used_any g v E q m n t W hW)
  generalize q.hv = hv at HUs ⊢
  clear h
  go_enter Tryz.func62, Tryz.ntmps62
  go_wp2_with fail
  refine HT.out.mono ?_
  rintro e w1 ⟨to, tc, rfl, hr, hn⟩
  obtain ⟨tq, cp, hv', _, _, hltq, hbk⟩ := hr.at_ (by decide)
  have hnew := hn.new _ hbk
  have HRW := Kp.mk hr
  simp only [Value.slice.injEq] at hv'
  obtain ⟨rfl, _, rfl⟩ := hv'
  have HNE : Kp (tq ≠ g ∧ tq ≠ v) := ⟨by have := H0.out.disk.lt; have := H0.out.vlt.lt; omega⟩
  have H1 := Kp.mk (H0.out.below hn.below)
  have C1 := Kp.mk (Ch2.of_below hn.below g v)
  have HQ2 : Kp (∀ W, Ch2 w1 W g v → ∀ k, k < 32 → W.cell? ⟨tq, k, none⟩ = some (.int .i64 (D.tp k).b.size)) := ⟨fun W hW k hk => by
    have hb := hW.block tq hltq HNE.out.1 HNE.out.2
    exact (World.cell?_of_block (a := ⟨tq, k, none⟩) hb).trans (HRW.out.cell k _ (numL_get _ _ _ hk))⟩
  clear hr hn HT hnew hbk hltq HRW
  go_wp2
  go_loopw [12] (fun i wr => ∃ k : Nat, i = .int .i64 k ∧ k ≤ 32 ∧ (wipeS D hv k).1 = 0 ∧ VS wr g v (wipeS D hv k).2 q m n ∧ Ch2 w1 wr g v) (fun i _ => 32 - (intOf i).toNat)
  case atStart => exact ⟨0, rfl, by omega, rfl, H1.out, Ch2.refl _ _ _⟩
  case round =>
    obtain ⟨k, rfl, hk, he0, hs, hc⟩ := hrel
    have S := Kp.mk hs
    have C := Kp.mk hc
    by_cases hk2 : k < 32
    · have a1 := HQ2.out wr hc k hk2
      have hstep : wipeS D hv (k + 1) = if k < 2 ∨ (D.tp k).b.size = 0 ∨ hv.uses k = true then wipeS D hv k else wipeV (wipeS D hv k).2 k := by
        rw [wipeS, if_neg (by rw [he0]; simp)]
      have hm := HO.out.most k hk2
      have HSt := Kp.mk hstep
      have HE0 := Kp.mk he0
      have HIk := Kp.mk (HUs.out wr _ k hs)
      have HV0 : Kp (∀ W, VS W g v (wipeS D hv k).2 q m n → W.cell? ⟨v, 0, none⟩ = some (.pointer (some ⟨g, 0, none⟩))) := ⟨fun W h => h.vlt.c0⟩
      have HSy := Kp.mk (fun W (h : VS W g v (wipeS D hv k).2 q m n) => (Wipe_any g _ k W h.disk h.ok).mono fun e w' (hh : _ ∧ _ ∧ _) => And.intro hh.1 (And.intro (h.chg hh.2.2 hh.2.1 (h.ok.wipe _)) (Ch2.of_chg hh.2.2 v)))
      generalize hD1 : wipeS D hv k = r at S HSt HV0 HSy he0 HE0
      obtain ⟨z, D1⟩ := r
      simp only [] at S HSt HV0 HSy he0 HE0
      subst he0
      clear hs hc hstep
      generalize (D.tp k).b.size = y at a1 HSt hm
      have i1 : (0 : Int) ≤ (k : Int) := by omega
      have i2 : (k : Int) < 32 := by omega
      by_cases hy : k < 2 ∨ y = 0
      · have hD2 : Kp (wipeS D hv (k + 1) = (0, D1)) := ⟨by rw [HSt.out, if_pos (by rcases hy with h | h; exact .inl h; exact .inr (.inl h))]⟩
        by_cases hk3 : k < 2
        · have t1 : decide ((k : Int) < 2) = true := by rw [decide_eq_true_eq]; omega
          clear hy
          go_wp2
          go_roundw
          case rel => exact ⟨k + 1, by go_num, by omega, by rw [hD2.out], by rw [hD2.out]; exact S.out, C.out⟩
          case measure => simp [intOf]; omega
        · obtain rfl : y = 0 := by omega
          have t1 : decide ((k : Int) < 2) = false := by rw [decide_eq_false_iff_not]; omega
          clear hy
          go_wp2
          go_roundw
          case rel => exact ⟨k + 1, by go_num, by omega, by rw [hD2.out], by rw [hD2.out]; exact S.out, C.out⟩
          case measure => simp [intOf]; omega
      · have t1 : decide ((k : Int) < 2) = false := by rw [decide_eq_false_iff_not]; omega
        have t2 : ((y : Int) == 0) = false := by rw [beq_eq_false_iff_ne]; omega
        have HS2 : Kp (wipeS D hv (k + 1) = if hv.uses k = true then (0, D1) else wipeV D1 k) := ⟨by
          rw [HSt.out]
          by_cases hi : hv.uses k = true
          · rw [if_pos (.inr (.inr hi)), if_pos hi]
          · rw [if_neg (by rintro (h | h | h); exact hy (.inl h); exact hy (.inr h); exact hi h), if_neg hi]⟩
        clear HSt hy
        go_wp2_with fail
        refine HIk.out.mono ?_
        rintro e w2 ⟨rfl, b2⟩
        have S2 := Kp.mk (S.out.below b2)
        have C2 := Kp.mk (C.out.trans (Ch2.of_below b2 g v))
        have k02 := HV0.out _ S2.out
        clear b2 HIk
        cases hib : hv.uses k
        · have hD2 : Kp (wipeS D hv (k + 1) = wipeV D1 k) := ⟨by rw [HS2.out, if_neg (by rw [hib]; simp)]⟩
          have hEr : Kp ((wipeS D hv (k + 1)).1 ≠ 0 → wipeS D hv 32 = wipeS D hv (k + 1)) := ⟨fun h => wipeS_err h 32 (by omega)⟩
          rw [hD2.out] at hEr
          go_wp2_with fail
          refine (HSy.out _ S2.out).mono ?_
          rintro e w3 ⟨rfl, s3, c3⟩
          have S3 := Kp.mk s3
          have C3 := Kp.mk (C2.out.trans c3)
          clear s3 c3 HSy
          generalize wipeV D1 k = P at *
          obtain ⟨z, D2⟩ := P
          simp only [] at *
          by_cases hz : z = 0
          · subst hz
            go_wp2
            go_roundw
            case rel => exact ⟨k + 1, by go_num, by omega, by rw [hD2.out], by rw [hD2.out]; exact S3.out, C3.out⟩
            case measure => simp [intOf]; omega
          · have t3 : (z == 0) = false := by rw [beq_eq_false_iff_ne]; exact hz
            have hF : Kp (wipeS D hv 32 = (z, D2)) := ⟨hEr.out hz⟩
            go_wp2
            go_ret
            exact ⟨by rw [hF.out] <;> rfl, by rw [hF.out]; exact S3.out, C1.out.trans C3.out⟩
        · have hD2 : Kp (wipeS D hv (k + 1) = (0, D1)) := ⟨by rw [HS2.out, if_pos hib]⟩
          go_wp2
          go_roundw
          case rel => exact ⟨k + 1, by go_num, by omega, by rw [hD2.out], by rw [hD2.out]; exact S2.out, C2.out⟩
          case measure => simp [intOf]; omega
    · obtain rfl : k = 32 := by omega
      clear hs hc
      go_wp2
      go_ret
      exact ⟨by rw [he0] <;> rfl, S.out, C1.out.trans C.out⟩
end Go.Proofs.YtpfoekfbcpinlaaGreatDoor
/- vault: other, Head, put. -/
namespace Go.Proofs.YtpfoekfbcpinlaaGreatDoor
open Go.RowKit
set_option linter.unusedVariables false

theorem putV_ok' {D : DiskV} (h : Ok D) (q : Hd.HV) : Ok (Hd.putV D q).2 := Hd.putV_ok h q
set_option maxRecDepth 20000 in
theorem other_any (g v : Nat) (D : DiskV) (q : HdV) (m : Int) (n : Nat) (w : World) (h : VS w g v D q m n) (hd : D.down = false) (ao : Option Addr) (cap : Nat) (f : Nat → Int) (hr : RK 1 w (.slice ao 32 cap) 32 (numL f 32)) :
    Calls Tryz.prog 70 #[.pointer (some ⟨v, 0, none⟩), .slice ao 32 cap] w fun e w' => e = .returned (.int .i64 (f (Hd.otherV D))) ∧ Below w.heap.size w w' := by
  obtain ⟨tq, cp, hv, _, _, _, _⟩ := hr.at_ (by decide)
  simp only [Value.slice.injEq] at hv
  obtain ⟨rfl, _, rfl⟩ := hv
  have k0 := h.vlt.c0
  have HL := Kp.mk (Load_up g D w h.disk h.ok h.tab.now hd)
  have HC : Kp (∀ W, Below w.heap.size w W → W.cell? ⟨tq, 0, none⟩ = some (.int .i64 (f 0)) ∧ W.cell? ⟨tq, 1, none⟩ = some (.int .i64 (f 1))) := ⟨fun W hW => ⟨(hr.below hW).cell 0 _ (numL_get _ _ _ (by decide)), (hr.below hW).cell 1 _ (numL_get _ _ _ (by decide))⟩⟩
  have hO : Hd.otherV D = if (Hd.diskV D).2.2 = true then 1 - (Hd.diskV D).2.1 else 0 := rfl
  have hon := Hd.diskV_tape D
  generalize Hd.otherV D = o at hO ⊢
  generalize Hd.diskV D = V at HL hO hon
  obtain ⟨h0, on, is⟩ := V
  simp only [] at HL hO hon
  clear h hr
  go_enter Tryz.func70, Tryz.ntmps70
  go_wp2_with fail
  refine HL.out.mono ?_
  rintro e w1 ⟨p, rfl, -, -, b1⟩
  have B1 := Kp.mk b1
  obtain ⟨pg, pb, ps, plo, pll, plc, plf⟩ := p
  unfold HdV.v
  simp only []
  have HB2 : Kp (∀ o, Below w.heap.size w (w1.alloc o)) := ⟨fun o => b1.alloc b1.size o⟩
  have c0 := fun o => (HC.out _ (HB2.out o)).1
  have c1 := fun o => (HC.out _ (HB2.out o)).2
  clear b1 HL
  cases is
  · simp only [Bool.false_eq_true, if_false] at hO
    subst hO
    go_wp2
    go_ret
    exact ⟨rfl, HB2.out _⟩
  · simp only [if_true] at hO
    by_cases h0 : on = 0
    · subst h0
      subst hO
      go_wp2
      go_ret
      exact ⟨rfl, HB2.out _⟩
    · obtain rfl : on = 1 := by omega
      subst hO
      go_wp2
      go_ret
      exact ⟨rfl, HB2.out _⟩
set_option maxRecDepth 20000 in
theorem vHead_any (g v : Nat) (D : DiskV) (q : HdV) (m : Int) (n : Nat) (w : World) (h : VS w g v D q m n) :
    Calls Tryz.prog 14 #[.pointer (some ⟨v, 0, none⟩)] w fun e w' => ∃ p : HdV, e = .returned p.v ∧ p.hv = q.hv ∧ p.ll = q.ll ∧ p.lf = q.lf ∧ HdOwn w.heap.size w' p ∧ Below w.heap.size w w' := by
  have k1 := fun o => (h.vlt.alloc o).c1
  have k2 := fun o => (h.vlt.alloc o).c2
  have k3 := fun o => (h.vlt.alloc o).c3
  have k4 := fun o => (h.vlt.alloc o).c4
  have HB : Kp (∀ o1 o2, Below w.heap.size w ((w.alloc o1).alloc o2)) := ⟨fun o1 o2 => ((Below.refl _ _).alloc (Nat.le_refl _) _).alloc (by simp) _⟩
  have HC := Kp.mk (fun W (hW : Below w.heap.size w W) => (Clone_any q W (h.vlt.row.below hW) h.vlt.few))
  have hf := h.vlt.few
  have hlt := h.vlt.lt
  clear h
  obtain ⟨qg, qb, qs, qlo, qll, qlc, qlf⟩ := q
  simp only [] at k1 k2 k3 k4 HC hf
  go_enter Tryz.func14, Tryz.ntmps14
  go_wp2_with fail
  refine (HC.out _ (HB.out _ _)).mono ?_
  rintro e w1 ⟨ao, cap, rfl, r1, b1, n1⟩
  have hz : ((w.alloc (.cells #[.int .i64 0, .int .i64 0, .int .i64 0, .slice none 0 0] 38)).alloc (.cells #[.int .i64 qg, .int .i64 qb, .int .i64 qs, .slice qlo qll qlc] 38)).heap.size = w.heap.size + 2 := by simp
  have x0 := (b1.block w.heap.size (by omega)).trans (heap_first w (.cells #[.int .i64 0, .int .i64 0, .int .i64 0, .slice none 0 0] 38) (.cells #[.int .i64 qg, .int .i64 qb, .int .i64 qs, .slice qlo qll qlc] 38))
  have x1 := (b1.block (w.heap.size + 1) (by omega)).trans (heap_second w (.cells #[.int .i64 0, .int .i64 0, .int .i64 0, .slice none 0 0] 38) (.cells #[.int .i64 qg, .int .i64 qb, .int .i64 qs, .slice qlo qll qlc] 38))
  obtain ⟨u0, u1, u2, u3⟩ := cells4 x0
  have X0 := Kp.mk x0
  obtain ⟨y0, y1, y2, y3⟩ := cells4 x1
  have f0 : ∀ j, w1.frozen? ⟨w.heap.size, j, none⟩ = false := fun j => by simp [World.frozen?, x0]
  have f1 : ∀ j, w1.frozen? ⟨w.heap.size + 1, j, none⟩ = false := fun j => by simp [World.frozen?, x1]
  have f13 := f1 3
  have f00 := f0 0
  have f01 := f0 1
  have f02 := f0 2
  have f03 := f0 3
  have R1 := Kp.mk r1
  have N1 := Kp.mk n1
  have B1 : Kp (Below w.heap.size w w1) := ⟨(HB.out _ _).trans (b1.mono (by simp; omega))⟩
  have HNE : ¬ w.heap.size + 1 = w.heap.size := by omega
  have HNE' : ¬ w.heap.size = w.heap.size + 1 := by omega
  clear r1 n1 b1 hz x0 x1 f0 f1 HC k1 k2 k3 k4
  go_wp2
  have hx : ∃ cs, ((((((w1.setCell ⟨w.heap.size + 1, 3, none⟩ (.slice ao qll cap)).setCell ⟨w.heap.size, 0, none⟩ (.int .i64 qg)).setCell ⟨w.heap.size, 1, none⟩ (.int .i64 qb)).setCell ⟨w.heap.size, 2, none⟩ (.int .i64 qs)).setCell ⟨w.heap.size, 3, none⟩ (.slice ao qll cap)).heap[w.heap.size]? = some (.cells cs 38 (0, 0))) ∧ cs = #[.int .i64 qg, .int .i64 qb, .int .i64 qs, .slice ao qll cap] := ⟨_, heap_setCell_same _ _ _ _ _ _ (heap_setCell_same _ _ _ _ _ _ (heap_setCell_same _ _ _ _ _ _ (heap_setCell_same _ _ _ _ _ _ ((Below.heap_setCell _ _ _ _ (by simp)).trans X0.out)))), rfl⟩
  obtain ⟨_, hx, rfl⟩ := hx
  obtain ⟨m0, m1, m2, m3⟩ := cells4 hx
  refine bodyPost_ret (v := .agg #[.int .i64 qg, .int .i64 qb, .int .i64 qs, .slice ao qll cap]) (by simp [results, Tryz.results14, go_sem, m0, m1, m2, m3]) rfl ?_
  refine ⟨⟨qg, qb, qs, ao, qll, cap, qlf⟩, rfl, rfl, rfl, rfl, ?_, ?_⟩
  · have hn : ∀ k, blk (.slice ao qll cap) = some k → w.heap.size + 2 ≤ k := fun k hk => by have := N1.out k hk; simp at this; omega
    exact ⟨((((R1.out.set _ _ (fun k hk => by have := hn k hk; simp; omega)).set _ _ (fun k hk => by have := hn k hk; simp; omega)).set _ _ (fun k hk => by have := hn k hk; simp; omega)).set _ _ (fun k hk => by have := hn k hk; simp; omega)).set _ _ (fun k hk => by have := hn k hk; simp; omega), fun k hk => by have := hn k hk; omega, hf⟩
  · exact ((((B1.out.setCell (p := ⟨w.heap.size + 1, 3, none⟩) (by simp) _).setCell (p := ⟨w.heap.size, 0, none⟩) (Nat.le_refl _) _).setCell (p := ⟨w.heap.size, 1, none⟩) (Nat.le_refl _) _).setCell (p := ⟨w.heap.size, 2, none⟩) (Nat.le_refl _) _).setCell (p := ⟨w.heap.size, 3, none⟩) (Nat.le_refl _) _
/-- The closure that put makes: it puts a head, which is the vault's then. -/
def vputV (D : DiskV) (h : Hd.HV) : Int × DiskV := Hd.putV D h
set_option maxRecDepth 20000 in
set_option maxHeartbeats 1000000 in
theorem vput_do (g v bv bh : Nat) (D : DiskV) (q p : HdV) (m : Int) (n : Nat) (w : World) (h : VS w g v D q m n) (hv : w.cell? ⟨bv, 0, none⟩ = some (.pointer (some ⟨v, 0, none⟩))) (hh : w.heap[bh]? = some (.cells #[.int .i64 p.gen, .int .i64 p.base, .int .i64 p.snap, .slice p.lo p.ll p.lc] 38 (0, 0)))
    (hr : RK 1 w (.slice p.lo p.ll p.lc) p.ll (numL p.lf p.ll)) (hoff : ∀ k, blk (.slice p.lo p.ll p.lc) = some k → k ≠ g ∧ k ≠ v) (hf : p.ll ≤ 31) (hbv : bv ≠ g ∧ bv ≠ v) (hbh : bh ≠ g ∧ bh ≠ v) :
    Calls Tryz.prog 103 #[.pointer (some ⟨bv, 0, none⟩), .pointer (some ⟨bh, 0, none⟩)] w fun e w' => e = .returned (.int .i64 (Hd.putV D p.hv).1) ∧ (((Hd.putV D p.hv).1 = 0 ∧ VS w' g v (Hd.putV D p.hv).2 p m n) ∨ ((Hd.putV D p.hv).1 ≠ 0 ∧ VS w' g v (Hd.putV D p.hv).2 q m n)) ∧ Ch2 w w' g v := by
  have k0 := h.vlt.c0
  obtain ⟨y0, y1, y2, y3⟩ := cells4 hh
  have hat : HdAt w p := (HdOwn.mk (B := 0) hr (fun _ _ => Nat.zero_le _) hf).at'
  have HP := Kp.mk (HPut_any g D p w.drew h.drew.disk h.ok h.drew.tab.now (hat.below (Below.refl _ _).drew))
  have hbvl := World.block_lt_of_cell? _ _ hv
  have hbhl := lt_of_block' hh
  have HK : Kp (∀ W, Chg w.drew W g → W.cell? ⟨bv, 0, none⟩ = some (.pointer (some ⟨v, 0, none⟩)) ∧ W.heap[bh]? = some (.cells #[.int .i64 p.gen, .int .i64 p.base, .int .i64 p.snap, .slice p.lo p.ll p.lc] 38 (0, 0)) ∧ RK 1 W (.slice p.lo p.ll p.lc) p.ll (numL p.lf p.ll)) := ⟨fun W hW =>
    ⟨(World.cell?_of_block (a := ⟨bv, 0, none⟩) (hW.block bv hbvl (fun e => hbv.1 (Option.some.inj e)))).trans hv, (hW.block bh hbhl (fun e => hbh.1 (Option.some.inj e))).trans hh,
      hr.same hW.size fun k hk => hW.block k (hr.lt k hk) (fun e => (hoff k hk).1 (Option.some.inj e))⟩⟩
  have H := Kp.mk h
  have HOf := Kp.mk hoff
  have hok := putV_ok' h.ok p.hv
  have HOk := Kp.mk hok
  clear h hr hat hh hoff hok hbv hbh hbvl hbhl
  obtain ⟨pg, pb, ps, plo, pll, plc, plf⟩ := p
  unfold HdV.v at HP
  simp only [] at HP HK y0 y1 y2 y3 HOf hf
  generalize HdV.hv ⟨pg, pb, ps, plo, pll, plc, plf⟩ = ph at HP HOk ⊢
  generalize Hd.putV D ph = P at HP HOk ⊢
  obtain ⟨z, D1⟩ := P
  simp only [] at HP HOk ⊢
  go_enter Tryz.func103, Tryz.ntmps103
  go_wp2_with fail
  go_region_held3 (fun w' => w'.cell? ⟨bv, 0, none⟩ = some (.pointer (some ⟨v, 0, none⟩)) ∧ w'.cell? ⟨v, 0, none⟩ = some (.pointer (some ⟨g, 0, none⟩)) ∧ w'.cell? ⟨bh, 0, none⟩ = some (.int .i64 pg) ∧ w'.cell? ⟨bh, 1, none⟩ = some (.int .i64 pb) ∧ w'.cell? ⟨bh, 2, none⟩ = some (.int .i64 ps) ∧ w'.cell? ⟨bh, 3, none⟩ = some (.slice plo pll plc)) (go_keep)
    (first
      | (go_at_call 96; refine HP.out.mono ?_; rintro e wu ⟨rfl, d1, c1⟩; obtain ⟨q1, q2, q3⟩ := HK.out _ c1; obtain ⟨y0, y1, y2, y3⟩ := cells4 q2; have S1 := Kp.mk (H.out.drew.chg c1 d1 HOk.out); have k0 := S1.out.vlt.c0; have R1 := Kp.mk (And.intro q3 c1); clear q2 q3 d1 c1))
  by_cases hz : z = 0
  · subst hz
    have g1 := S1.out.vlt.c1
    have g2 := S1.out.vlt.c2
    have g3 := S1.out.vlt.c3
    have g4 := S1.out.vlt.c4
    have fr := S1.out.vlt.free
    have fr1 := fr 1
    have fr2 := fr 2
    have fr3 := fr 3
    have fr4 := fr 4
    have HF := Kp.mk (S1.out.vlt.head (p := ⟨pg, pb, ps, plo, pll, plc, plf⟩) R1.out.1 HOf.out hf)
    clear fr
    have HVS := Kp.mk (fun (c : Ch2 wu ((((wu.setCell ⟨v, 1, none⟩ (.int .i64 pg)).setCell ⟨v, 2, none⟩ (.int .i64 pb)).setCell ⟨v, 3, none⟩ (.int .i64 ps)).setCell ⟨v, 4, none⟩ (.slice plo pll plc)) g v) => VS.mk (D := D1) ((((S1.out.disk.same (Below.heap_setCell wu ⟨v, 1, none⟩ _ g S1.out.vlt.ne)).same (Below.heap_setCell _ ⟨v, 2, none⟩ _ g S1.out.vlt.ne)).same (Below.heap_setCell _ ⟨v, 3, none⟩ _ g S1.out.vlt.ne)).same (Below.heap_setCell _ ⟨v, 4, none⟩ _ g S1.out.vlt.ne)) HF.out S1.out.ok (S1.out.tab.next c))
    have HCh : Kp (Ch2 wu ((((wu.setCell ⟨v, 1, none⟩ (.int .i64 pg)).setCell ⟨v, 2, none⟩ (.int .i64 pb)).setCell ⟨v, 3, none⟩ (.int .i64 ps)).setCell ⟨v, 4, none⟩ (.slice plo pll plc)) g v) := ⟨(((Ch2.setv _ _ _ _ _).trans (Ch2.setv _ _ _ _ _)).trans (Ch2.setv _ _ _ _ _)).trans (Ch2.setv _ _ _ _ _)⟩
    go_wp2
    go_ret
    exact ⟨rfl, by first | exact HVS.out HCh.out | exact .inl ⟨rfl, HVS.out HCh.out⟩ | exact .inl (HVS.out HCh.out), (((Ch2.refl _ _ _).dr).trans (Ch2.of_chg R1.out.2 _)).trans HCh.out⟩
  · have t1 : (z == 0) = false := by rw [beq_eq_false_iff_ne]; exact hz
    go_wp2
    go_ret
    exact ⟨rfl, .inr ⟨hz, S1.out⟩, ((Ch2.refl _ _ _).dr).trans (Ch2.of_chg R1.out.2 _)⟩
end Go.Proofs.YtpfoekfbcpinlaaGreatDoor
/- vault: load. -/
namespace Go.Proofs.YtpfoekfbcpinlaaGreatDoor
open Go.RowKit
set_option linter.unusedVariables false

theorem Ch2.heap {w W : World} {g v b : Nat} {o : Obj} (h : Ch2 w W g v) (hb : w.heap[b]? = some o) (h1 : b ≠ g) (h2 : b ≠ v) : W.heap[b]? = some o := (h.block b (lt_of_block' hb) h1 h2).trans hb
theorem Ch2.cell {w W : World} {g v b j : Nat} {x : Value} (h : Ch2 w W g v) (hc : w.cell? ⟨b, j, none⟩ = some x) (h1 : b ≠ g) (h2 : b ≠ v) : W.cell? ⟨b, j, none⟩ = some x := (World.cell?_of_block (a := ⟨b, j, none⟩) (h.block b (World.block_lt_of_cell? _ _ hc) h1 h2)).trans hc
theorem one_cell {W : World} {b : Nat} {x : Value} {T : TypeId} (h : W.heap[b]? = some (.cells #[x] T (0, 0))) : W.cell? ⟨b, 0, none⟩ = some x := by simp [World.cell?, h]
theorem wipe_do_any (g v b : Nat) (D : DiskV) (q : HdV) (m : Int) (n : Nat) (w : World) (h : VS w g v D q m n) (hb : w.cell? ⟨b, 0, none⟩ = some (.pointer (some ⟨v, 0, none⟩))) :
    Calls Tryz.prog 94 #[.pointer (some ⟨b, 0, none⟩)] w fun e w' => e = .returned (.int .i64 (wipeV D 2).1) ∧ VS w' g v (wipeV D 2).2 q m n ∧ Ch2 w w' g v := by
  have k0 := h.vlt.c0
  have HW := Kp.mk ((Wipe_any g D 2 w h.disk h.ok).mono fun e w' (hh : _ ∧ _ ∧ _) => And.intro hh.1 (And.intro (h.chg hh.2.2 hh.2.1 (h.ok.wipe _)) (Ch2.of_chg hh.2.2 v)))
  generalize wipeV D 2 = P at HW ⊢
  obtain ⟨z, D1⟩ := P
  simp only [] at HW ⊢
  clear h
  go_enter Tryz.func94, Tryz.ntmps94
  go_wp2_with fail
  refine HW.out.mono ?_
  rintro e w1 ⟨rfl, s1, c1⟩
  have H := Kp.mk (And.intro s1 c1)
  clear s1 c1
  go_wp2
  go_ret
  exact ⟨rfl, H.out.1, H.out.2⟩
set_option maxRecDepth 20000 in
theorem put_do_any (g v b : Nat) (D : DiskV) (q : HdV) (m : Int) (n : Nat) (w : World) (h : VS w g v D q m n) (hb : w.cell? ⟨b, 0, none⟩ = some (.pointer (some ⟨v, 0, none⟩))) (hne : b ≠ g ∧ b ≠ v) :
    Calls Tryz.prog 95 #[.pointer (some ⟨b, 0, none⟩)] w fun e w' => e = .returned (.int .i64 (Hd.putV D q.hv).1) ∧ VS w' g v (Hd.putV D q.hv).2 q m n ∧ Ch2 w w' g v := by
  have k0 := h.vlt.c0
  have k1 := h.vlt.c1
  have k2 := h.vlt.c2
  have k3 := h.vlt.c3
  have k4 := h.vlt.c4
  have HP := Kp.mk ((HPut_any g D q w.drew h.drew.disk h.ok h.drew.tab.now h.drew.vlt.at').mono fun e w' (hh : _ ∧ _ ∧ _) => And.intro hh.1 (And.intro (h.drew.chg hh.2.2 hh.2.1 (putV_ok' h.ok _)) ((Ch2.refl w g v).dr.trans (Ch2.of_chg hh.2.2 v))))
  have HBc : Kp (∀ W, Ch2 w W g v → W.cell? ⟨b, 0, none⟩ = some (.pointer (some ⟨v, 0, none⟩))) := ⟨fun W hW => hW.cell hb hne.1 hne.2⟩
  generalize Hd.putV D q.hv = P at HP ⊢
  obtain ⟨z, D1⟩ := P
  simp only [] at HP ⊢
  unfold HdV.v at HP
  clear h
  go_enter Tryz.func95, Tryz.ntmps95
  go_wp2_with fail
  go_region_held3 (fun w' => w'.cell? ⟨b, 0, none⟩ = some (.pointer (some ⟨v, 0, none⟩)) ∧ w'.cell? ⟨v, 0, none⟩ = some (.pointer (some ⟨g, 0, none⟩)) ∧ w'.cell? ⟨v, 1, none⟩ = some (.int .i64 q.gen) ∧ w'.cell? ⟨v, 2, none⟩ = some (.int .i64 q.base) ∧ w'.cell? ⟨v, 3, none⟩ = some (.int .i64 q.snap) ∧ w'.cell? ⟨v, 4, none⟩ = some (.slice q.lo q.ll q.lc)) (go_keep)
    (first
      | (go_at_call 96; refine HP.out.mono ?_; rintro e wu ⟨rfl, s1, c1⟩; have hb := HBc.out _ c1; have k0 := s1.vlt.c0; have k1 := s1.vlt.c1; have k2 := s1.vlt.c2; have k3 := s1.vlt.c3; have k4 := s1.vlt.c4; have H := Kp.mk (And.intro s1 c1); clear s1 c1))
  go_wp2
  go_ret
  exact ⟨rfl, H.out.1, H.out.2⟩
theorem rk_block {q : Nat} {w : World} {x : Int} {T : TypeId} (h : w.heap[q]? = some (.cells #[.int .i64 x] T (0, 0))) : RK 1 w (.slice (some ⟨q, 0, none⟩) 1 1) 1 (numL (fun _ => x) 1) := RK.block h rfl (by decide)
theorem ent_load1 (W : World) (p : Value) : (callFunc 94 (#[] ++ #[p])).run Tryz.prog W = .ok (.enter 94 (#[] ++ #[p])) W := by kernel_rfl
theorem ent_load2 (W : World) (p : Value) : (callFunc 95 (#[] ++ #[p])).run Tryz.prog W = .ok (.enter 95 (#[] ++ #[p])) W := by kernel_rfl
/-- The head that a vault begins with. -/
def firstH : Hd.HV := ⟨1, 0, 0, [2]⟩
theorem firstH_may : firstH.may = true := by decide
/-- What load leaves: its error, the disk, the head. -/
def vloadV (D : DiskV) : Int × DiskV × Hd.HV :=
  if D.down = true then (45, D, Hd.HV.zero) else if (Hd.diskV D).2.2 = true then (0, D, (Hd.diskV D).1)
  else if (wipeV D 2).1 ≠ 0 then ((wipeV D 2).1, (wipeV D 2).2, firstH) else ((Hd.putV (wipeV D 2).2 firstH).1, (Hd.putV (wipeV D 2).2 firstH).2, firstH)
theorem set_disk4 {w : World} {g v : Nat} {D : DiskV} (h : DiskAt w g D) (hne : g ≠ v) (a b c d : Value) : DiskAt ((((w.setCell ⟨v, 1, none⟩ a).setCell ⟨v, 2, none⟩ b).setCell ⟨v, 3, none⟩ c).setCell ⟨v, 4, none⟩ d) g D :=
  (((h.same (Below.heap_setCell _ ⟨v, 1, none⟩ _ g hne)).same (Below.heap_setCell _ ⟨v, 2, none⟩ _ g hne)).same (Below.heap_setCell _ ⟨v, 3, none⟩ _ g hne)).same (Below.heap_setCell _ ⟨v, 4, none⟩ _ g hne)
theorem Ch2.set4 (w : World) (g v : Nat) (a b c d : Value) : Ch2 w ((((w.setCell ⟨v, 1, none⟩ a).setCell ⟨v, 2, none⟩ b).setCell ⟨v, 3, none⟩ c).setCell ⟨v, 4, none⟩ d) g v :=
  (((Ch2.setv _ _ _ _ _).trans (Ch2.setv _ _ _ _ _)).trans (Ch2.setv _ _ _ _ _)).trans (Ch2.setv _ _ _ _ _)
/-- A new head is the vault's. -/
theorem VS.head {w : World} {g v : Nat} {D : DiskV} {q p : HdV} {m : Int} {n : Nat} (h : VS w g v D q m n) (hp : RK 1 w (.slice p.lo p.ll p.lc) p.ll (numL p.lf p.ll)) (ho : ∀ k, blk (.slice p.lo p.ll p.lc) = some k → k ≠ g ∧ k ≠ v) (hf : p.ll ≤ 31) :
    VS ((((w.setCell ⟨v, 1, none⟩ (.int .i64 p.gen)).setCell ⟨v, 2, none⟩ (.int .i64 p.base)).setCell ⟨v, 3, none⟩ (.int .i64 p.snap)).setCell ⟨v, 4, none⟩ (.slice p.lo p.ll p.lc)) g v D p m n :=
  ⟨set_disk4 h.disk h.vlt.ne _ _ _ _, h.vlt.head hp ho hf, h.ok, h.tab.next (Ch2.set4 _ _ _ _ _ _ _)⟩
set_option maxRecDepth 20000 in
set_option maxHeartbeats 2000000 in
theorem vload_any (g v : Nat) (D : DiskV) (q : HdV) (m : Int) (n : Nat) (w : World) (h : VS w g v D q m n) :
    Calls Tryz.prog 61 #[.pointer (some ⟨v, 0, none⟩)] w fun e w' => e = .returned (.int .i64 (vloadV D).1) ∧ (∃ p : HdV, p.hv = (vloadV D).2.2 ∧ VS w' g v (vloadV D).2.1 p m n ∧ ∀ k, blk (.slice p.lo p.ll p.lc) = some k → w.heap.size ≤ k) ∧ Ch2 w w' g v := by
  have HB0 : Kp (∀ o, Below w.heap.size w (w.alloc o)) := ⟨fun o => (Below.refl _ _).alloc (Nat.le_refl _) _⟩
  have k0 := fun o => (h.vlt.alloc o).c0
  have hbx := heap_alloc_new w (.cells #[.pointer (some ⟨v, 0, none⟩)] 30)
  have HX := Kp.mk hbx
  have H := Kp.mk h
  have hlv := h.vlt.lt
  have hlg := h.disk.lt
  have hne := h.vlt.ne
  have HL := Kp.mk (fun W (hW : Below w.heap.size w W) => HLoad_any g D W (h.below hW).disk h.ok (h.below hW).tab.now)
  clear h hbx
  go_enter Tryz.func61, Tryz.ntmps61
  go_wp2_with fail
  refine (HL.out _ (HB0.out _)).mono ?_
  rintro e w1 ⟨p, rfl, hp, ho, b1⟩
  have B1 := Kp.mk ((HB0.out (.cells #[.pointer (some ⟨v, 0, none⟩)] 30)).trans (b1.mono (by simp)))
  have X1 : Kp (w1.heap[w.heap.size]? = some (.cells #[.pointer (some ⟨v, 0, none⟩)] 30 (0, 0))) := ⟨(b1.block _ (by simp)).trans HX.out⟩
  have x1 := one_cell X1.out
  have S1 := Kp.mk (H.out.below B1.out)
  have hne2 : w.heap.size ≠ g ∧ w.heap.size ≠ v := by omega
  have HO := Kp.mk ho
  have hsz : w.heap.size < w1.heap.size := lt_of_block' X1.out
  have hoff : ∀ k, blk (.slice p.lo p.ll p.lc) = some k → k ≠ g ∧ k ≠ v := fun k hk => by have := ho.new k hk; simp at this; omega
  have HF := Kp.mk hoff
  have HPv := Kp.mk hp
  clear b1 ho hoff hp HL
  obtain ⟨pg, pb, ps, plo, pll, plc, plf⟩ := p
  unfold HdV.v
  simp only [] at HO HF ⊢
  have HN : Kp (∀ o, VS (w1.alloc o) g v D q m n) := ⟨fun o => S1.out.alloc o⟩
  have c1 := fun o => (S1.out.alloc o).vlt.c1
  have c2 := fun o => (S1.out.alloc o).vlt.c2
  have c3 := fun o => (S1.out.alloc o).vlt.c3
  have c4 := fun o => (S1.out.alloc o).vlt.c4
  have fr := fun o => (S1.out.alloc o).vlt.free
  have fr1 := fun o => fr o 1
  have fr2 := fun o => fr o 2
  have fr3 := fun o => fr o 3
  have fr4 := fun o => fr o 4
  have x1' : ∀ o, (w1.alloc o).cell? ⟨w.heap.size, 0, none⟩ = some (.pointer (some ⟨v, 0, none⟩)) := fun o => by rw [World.cell?_alloc_lt _ _ _ hsz]; exact x1
  have HHd : Kp (∀ o, VS (((((w1.alloc o).setCell ⟨v, 1, none⟩ (.int .i64 pg)).setCell ⟨v, 2, none⟩ (.int .i64 pb)).setCell ⟨v, 3, none⟩ (.int .i64 ps)).setCell ⟨v, 4, none⟩ (.slice plo pll plc)) g v D ⟨pg, pb, ps, plo, pll, plc, plf⟩ m n) := ⟨fun o => (S1.out.alloc o).head (p := ⟨pg, pb, ps, plo, pll, plc, plf⟩) (HO.out.row.alloc o) HF.out HO.out.few⟩
  have HCh : Kp (∀ o a b c d, Ch2 w (((((w1.alloc o).setCell ⟨v, 1, none⟩ a).setCell ⟨v, 2, none⟩ b).setCell ⟨v, 3, none⟩ c).setCell ⟨v, 4, none⟩ d) g v) := ⟨fun o a b c d => ((Ch2.of_below B1.out g v).trans (Ch2.alloc _ _ _ _)).trans (Ch2.set4 _ _ _ _ _ _ _)⟩
  clear fr
  cases hd : D.down
  · rw [hd] at HPv
    simp only [Bool.false_eq_true, if_false] at HPv ⊢
    cases his : (Hd.diskV D).2.2
    · have hV : Kp (vloadV D = if (wipeV D 2).1 ≠ 0 then ((wipeV D 2).1, (wipeV D 2).2, firstH) else ((Hd.putV (wipeV D 2).2 firstH).1, (Hd.putV (wipeV D 2).2 firstH).2, firstH)) := ⟨by unfold vloadV; rw [if_neg (by rw [hd]; simp), if_neg (by rw [his]; simp)]⟩
      clear HHd
      have d1 := fun o1 o2 => ((S1.out.alloc o1).alloc o2).vlt.c1
      have d2 := fun o1 o2 => ((S1.out.alloc o1).alloc o2).vlt.c2
      have d3 := fun o1 o2 => ((S1.out.alloc o1).alloc o2).vlt.c3
      have d4 := fun o1 o2 => ((S1.out.alloc o1).alloc o2).vlt.c4
      have gr := fun o1 o2 => ((S1.out.alloc o1).alloc o2).vlt.free
      have gr1 := fun o1 o2 => gr o1 o2 1
      have gr2 := fun o1 o2 => gr o1 o2 2
      have gr3 := fun o1 o2 => gr o1 o2 3
      have gr4 := fun o1 o2 => gr o1 o2 4
      clear gr
      have V4 : Kp (VS ((((((w1.alloc (.cells #[.int .i64 pg, .int .i64 pb, .int .i64 ps, .slice plo pll plc] 38)).alloc (.cells #[.int .i64 2] 3)).setCell ⟨v, 1, none⟩ (.int .i64 1)).setCell ⟨v, 2, none⟩ (.int .i64 0)).setCell ⟨v, 3, none⟩ (.int .i64 0)).setCell ⟨v, 4, none⟩ (.slice (some ⟨w1.heap.size + 1, 0, none⟩) 1 1)) g v D ⟨1, 0, 0, some ⟨w1.heap.size + 1, 0, none⟩, 1, 1, fun _ => 2⟩ m n) := ⟨VS.head (p := ⟨1, 0, 0, some ⟨w1.heap.size + 1, 0, none⟩, 1, 1, fun _ => 2⟩) ((S1.out.alloc _).alloc _) (rk_block (heap_second w1 _ _)) (fun k hk => by simp [blk] at hk; have := S1.out.vlt.lt; have := S1.out.disk.lt; omega) (by show (1 : Nat) ≤ 31; decide)⟩
      have C4 : Kp (Ch2 w ((((((w1.alloc (.cells #[.int .i64 pg, .int .i64 pb, .int .i64 ps, .slice plo pll plc] 38)).alloc (.cells #[.int .i64 2] 3)).setCell ⟨v, 1, none⟩ (.int .i64 1)).setCell ⟨v, 2, none⟩ (.int .i64 0)).setCell ⟨v, 3, none⟩ (.int .i64 0)).setCell ⟨v, 4, none⟩ (.slice (some ⟨w1.heap.size + 1, 0, none⟩) 1 1)) g v) := ⟨(((Ch2.of_below B1.out g v).trans (Ch2.alloc _ _ _ _)).trans (Ch2.alloc _ _ _ _)).trans (Ch2.set4 _ _ _ _ _ _ _)⟩
      have C14 : Kp (Ch2 w1 ((((((w1.alloc (.cells #[.int .i64 pg, .int .i64 pb, .int .i64 ps, .slice plo pll plc] 38)).alloc (.cells #[.int .i64 2] 3)).setCell ⟨v, 1, none⟩ (.int .i64 1)).setCell ⟨v, 2, none⟩ (.int .i64 0)).setCell ⟨v, 3, none⟩ (.int .i64 0)).setCell ⟨v, 4, none⟩ (.slice (some ⟨w1.heap.size + 1, 0, none⟩) 1 1)) g v) := ⟨((Ch2.alloc _ _ _ _).trans (Ch2.alloc _ _ _ _)).trans (Ch2.set4 _ _ _ _ _ _ _)⟩
      have Z4 : Kp (((((((w1.alloc (.cells #[.int .i64 pg, .int .i64 pb, .int .i64 ps, .slice plo pll plc] 38)).alloc (.cells #[.int .i64 2] 3)).setCell ⟨v, 1, none⟩ (.int .i64 1)).setCell ⟨v, 2, none⟩ (.int .i64 0)).setCell ⟨v, 3, none⟩ (.int .i64 0)).setCell ⟨v, 4, none⟩ (.slice (some ⟨w1.heap.size + 1, 0, none⟩) 1 1)).heap.size = w1.heap.size + 2) := ⟨by simp⟩
      have X4 := Kp.mk (C14.out.heap X1.out hne2.1 hne2.2)
      go_wp2_with fail
      generalize ((((((w1.alloc (.cells #[.int .i64 pg, .int .i64 pb, .int .i64 ps, .slice plo pll plc] 38)).alloc (.cells #[.int .i64 2] 3)).setCell ⟨v, 1, none⟩ (.int .i64 1)).setCell ⟨v, 2, none⟩ (.int .i64 0)).setCell ⟨v, 3, none⟩ (.int .i64 0)).setCell ⟨v, 4, none⟩ (.slice (some ⟨w1.heap.size + 1, 0, none⟩) 1 1)) = w4 at *
      have N5 := heap_alloc_new w4 (.cells #[.func (.func 94) #[] #[.pointer (some ⟨w.heap.size, 0, none⟩)], .func (.func 95) #[] #[.pointer (some ⟨w.heap.size, 0, none⟩)]] 34)
      rw [Z4.out] at N5
      have HN5 := Kp.mk N5
      have V5 := Kp.mk (V4.out.alloc (.cells #[.func (.func 94) #[] #[.pointer (some ⟨w.heap.size, 0, none⟩)], .func (.func 95) #[] #[.pointer (some ⟨w.heap.size, 0, none⟩)]] 34))
      have C5 := Kp.mk (C4.out.trans (Ch2.alloc w4 (.cells #[.func (.func 94) #[] #[.pointer (some ⟨w.heap.size, 0, none⟩)], .func (.func 95) #[] #[.pointer (some ⟨w.heap.size, 0, none⟩)]] 34) g v))
      have X5 : Kp ((w4.alloc (.cells #[.func (.func 94) #[] #[.pointer (some ⟨w.heap.size, 0, none⟩)], .func (.func 95) #[] #[.pointer (some ⟨w.heap.size, 0, none⟩)]] 34)).heap[w.heap.size]? = some (.cells #[.pointer (some ⟨v, 0, none⟩)] 30 (0, 0))) := ⟨(Below.heap_alloc _ _ _ (lt_of_block' X4.out)).trans X4.out⟩
      have hvl := S1.out.vlt.lt
      have hgl := S1.out.disk.lt
      have HNE2 : Kp (w1.heap.size + 2 ≠ g ∧ w1.heap.size + 2 ≠ v) := ⟨by omega⟩
      clear N5 d1 d2 d3 d4 gr1 gr2 gr3 gr4 c1 c2 c3 c4 fr1 fr2 fr3 fr4 x1' x1 k0 V4 C4 C14 X4
      generalize w4.alloc (.cells #[.func (.func 94) #[] #[.pointer (some ⟨w.heap.size, 0, none⟩)], .func (.func 95) #[] #[.pointer (some ⟨w.heap.size, 0, none⟩)]] 34) = w5 at *
      have HLo : Kp (∀ k, blk (.slice (some ⟨w1.heap.size + 1, 0, none⟩) 1 1) = some k → w.heap.size ≤ k) := ⟨fun k hk => by simp [blk] at hk; omega⟩
      generalize some (⟨w1.heap.size + 1, 0, none⟩ : Addr) = lo1 at *
      refine (all_any ⟨w1.heap.size + 2, 0, none⟩ 2 2 (fun i => if i = 0 then 94 else 95) (fun _ => #[]) (fun _ => #[.pointer (some ⟨w.heap.size, 0, none⟩)])
        (fun i W => (i = 0 ∧ VS W g v D ⟨1, 0, 0, lo1, 1, 1, fun _ => 2⟩ m n ∧ Ch2 w5 W g v) ∨ (i = 1 ∧ (wipeV D 2).1 = 0 ∧ VS W g v (wipeV D 2).2 ⟨1, 0, 0, lo1, 1, 1, fun _ => 2⟩ m n ∧ Ch2 w5 W g v) ∨ (i = 2 ∧ (vloadV D).1 = 0 ∧ VS W g v (vloadV D).2.1 ⟨1, 0, 0, lo1, 1, 1, fun _ => 2⟩ m n ∧ Ch2 w5 W g v))
        (fun z W => z = (vloadV D).1 ∧ VS W g v (vloadV D).2.1 ⟨1, 0, 0, lo1, 1, 1, fun _ => 2⟩ m n ∧ Ch2 w5 W g v) w5 (by decide) (.inl ⟨rfl, V5.out, Ch2.refl _ _ _⟩) ?_ ?_ ?_).mono ?_
      · intro W i hi hS
        have hc : Ch2 w5 W g v := by rcases hS with ⟨_, _, h⟩ | ⟨_, _, _, h⟩ | ⟨_, _, _, h⟩ <;> exact h
        have hb := hc.heap HN5.out HNE2.out.1 HNE2.out.2
        rw [Addr.add_lit, Nat.zero_add]
        match i, hi with
        | 0, _ => simp [World.cell?, hb]
        | 1, _ => simp [World.cell?, hb]
      · intro W i hi
        match i, hi with
        | 0, _ => exact ent_load1 W _
        | 1, _ => exact ent_load2 W _
      · intro W i hi hS
        rcases hS with ⟨rfl, hs, hc⟩ | ⟨rfl, he, hs, hc⟩ | ⟨rfl, _⟩
        · have hx := one_cell (hc.heap X5.out hne2.1 hne2.2)
          refine (wipe_do_any g v w.heap.size D _ m n W hs hx).mono ?_
          rintro e W' ⟨rfl, s1, c1⟩
          refine ⟨_, rfl, ?_⟩
          by_cases hz : (wipeV D 2).1 = 0
          · exact .inl ⟨hz, .inr (.inl ⟨rfl, hz, s1, hc.trans c1⟩)⟩
          · refine .inr ⟨hz, ?_⟩
            have hV2 : vloadV D = ((wipeV D 2).1, (wipeV D 2).2, firstH) := by rw [hV.out, if_pos hz]
            rw [hV2]
            exact ⟨rfl, s1, hc.trans c1⟩
        · have hx := one_cell (hc.heap X5.out hne2.1 hne2.2)
          refine (put_do_any g v w.heap.size _ _ m n W hs hx hne2).mono ?_
          rintro e W' ⟨rfl, s1, c1⟩
          have hV2 : vloadV D = ((Hd.putV (wipeV D 2).2 firstH).1, (Hd.putV (wipeV D 2).2 firstH).2, firstH) := by rw [hV.out, if_neg (by simpa using he)]
          have hp1 : (HdV.hv ⟨1, 0, 0, lo1, 1, 1, fun _ => 2⟩) = firstH := rfl
          rw [hp1] at s1 ⊢
          refine ⟨_, rfl, ?_⟩
          rw [hV2]
          by_cases hz : (Hd.putV (wipeV D 2).2 firstH).1 = 0
          · exact .inl ⟨hz, .inr (.inr ⟨rfl, hz, s1, hc.trans c1⟩)⟩
          · exact .inr ⟨hz, rfl, s1, hc.trans c1⟩
        · omega
      · rintro e w6 ⟨z, rfl, hz⟩
        have HV3 : Kp ((vloadV D).2.2 = firstH) := ⟨by rw [hV.out]; split <;> rfl⟩
        have H6 : Kp (z = (vloadV D).1 ∧ VS w6 g v (vloadV D).2.1 ⟨1, 0, 0, lo1, 1, 1, fun _ => 2⟩ m n ∧ Ch2 w5 w6 g v) := ⟨by
          rcases hz with ⟨rfl, ⟨h, _⟩ | ⟨h, _⟩ | ⟨_, h1, h2, h3⟩⟩ | ⟨_, h⟩
          · omega
          · omega
          · exact ⟨h1.symm, h2, h3⟩
          · exact h⟩
        clear hz
        go_wp2
        go_ret
        exact ⟨by rw [← H6.out.1] <;> rfl, ⟨_, by rw [HV3.out]; rfl, H6.out.2.1, HLo.out⟩, C5.out.trans H6.out.2.2⟩
    · have hV : Kp (vloadV D = (0, D, (Hd.diskV D).1)) := ⟨by unfold vloadV; rw [if_neg (by rw [hd]; simp), if_pos his]⟩
      go_wp2
      go_ret
      exact ⟨by rw [hV.out] <;> rfl, ⟨_, by rw [hV.out]; exact HPv.out, by rw [hV.out]; exact HHd.out _, fun k hk => by have := HO.out.new k hk; simp at this; omega⟩, HCh.out _ _ _ _ _⟩
  · rw [hd] at HPv
    simp only [if_true] at HPv ⊢
    have hV : Kp (vloadV D = (45, D, Hd.HV.zero)) := ⟨by unfold vloadV; rw [if_pos hd]⟩
    go_wp2
    go_ret
    exact ⟨by rw [hV.out] <;> rfl, ⟨_, by rw [hV.out]; exact HPv.out, by rw [hV.out]; exact HHd.out _, fun k hk => by have := HO.out.new k hk; simp at this; omega⟩, HCh.out _ _ _ _ _⟩
end Go.Proofs.YtpfoekfbcpinlaaGreatDoor
/- vault: snap, tape. -/
namespace Go.Proofs.YtpfoekfbcpinlaaGreatDoor
open Go.RowKit
set_option linter.unusedVariables false

/-- What a call may do: write blocks g, v and f, lay new ones. -/
structure Ch3 (w w' : World) (g v f : Nat) : Prop where
  os : w'.os = w.os
  tape : w'.tape = w.tape
  output : w'.output = w.output
  size : w.heap.size ≤ w'.heap.size
  block : ∀ k, k < w.heap.size → k ≠ g → k ≠ v → k ≠ f → w'.heap[k]? = w.heap[k]?
theorem Ch3.trans {w w1 w2 : World} {g v f : Nat} (h : Ch3 w w1 g v f) (h1 : Ch3 w1 w2 g v f) : Ch3 w w2 g v f :=
  ⟨h1.os.trans h.os, h1.tape.trans h.tape, h1.output.trans h.output, Nat.le_trans h.size h1.size, fun k hk a b c => (h1.block k (Nat.lt_of_lt_of_le hk h.size) a b c).trans (h.block k hk a b c)⟩
theorem Ch3.of {w w' : World} {g v : Nat} (h : Ch2 w w' g v) (f : Nat) : Ch3 w w' g v f := ⟨h.os, h.tape, h.output, h.size, fun k hk a b _ => h.block k hk a b⟩
theorem Ch3.setf (w : World) (g v f j : Nat) (u : Value) : Ch3 w (w.setCell ⟨f, j, none⟩ u) g v f := ⟨rfl, rfl, rfl, by simp, fun k _ _ _ c => Below.heap_setCell w ⟨f, j, none⟩ u k c⟩
theorem Ch3.heap {w W : World} {g v f b : Nat} {o : Obj} (h : Ch3 w W g v f) (hb : w.heap[b]? = some o) (h1 : b ≠ g) (h2 : b ≠ v) (h3 : b ≠ f) : W.heap[b]? = some o := (h.block b (lt_of_block' hb) h1 h2 h3).trans hb
/-- A store that is no matter of the vault's. -/
theorem VS.setf {w : World} {g v f j : Nat} {D : DiskV} {q : HdV} {m : Int} {n : Nat} (h : VS w g v D q m n) (u : Value) (h1 : g ≠ f) (h2 : v ≠ f) (h3 : ∀ k, blk (.slice q.lo q.ll q.lc) = some k → k ≠ f) (ht : ∀ W, Ch3 w W g v f → Tab W) : VS (w.setCell ⟨f, j, none⟩ u) g v D q m n :=
  ⟨h.disk.same (Below.heap_setCell w ⟨f, j, none⟩ u g h1), ⟨(Below.heap_setCell w ⟨f, j, none⟩ u v h2).trans h.vlt.box, h.vlt.row.set _ _ h3, h.vlt.off, h.vlt.ne, h.vlt.few⟩, h.ok, fun W hW => ht W ((Ch3.setf w g v f j u).trans (Ch3.of hW f))⟩
/-- What was found, in block f. -/
def FndAt (w : World) (f : Nat) (has : Bool) (s : ByteArray) (rv : Value) : Prop := w.heap[f]? = some (.cells #[.bool has, .string s, rv] 48 (0, 0))
theorem f_cells {w : World} {f : Nat} {a b c : Value} {T : TypeId} (h : w.heap[f]? = some (.cells #[a, b, c] T (0, 0))) (j : Nat) (u : Value) : (w.setCell ⟨f, j, none⟩ u).heap[f]? = some (.cells (#[a, b, c].setIfInBounds j u) T (0, 0)) := by
  show (w.heap.modify f _)[f]? = _
  rw [Array.getElem?_modify]
  simp [h]
/-- What snap finds: its error, whether there is a snapshot, that. -/
def snapV (D : DiskV) (h : Hd.HV) : Int × Bool × ByteArray :=
  if h.snap = 0 then (0, false, ⟨#[]⟩) else if (readV D h.snap).2 ≠ 0 then ((readV D h.snap).2, false, ⟨#[]⟩)
  else (if (oneV (readV D h.snap).1 2).2 = true then 0 else 4, (oneV (readV D h.snap).1 2).2, (oneV (readV D h.snap).1 2).1)
theorem read_size {D : DiskV} (h : Ok D) (t : Int) : (readV D t).1.size ≤ 1048576 := by
  unfold readV
  split
  · exact Nat.zero_le _
  · split
    · exact Nat.zero_le _
    · exact h.most _ (by omega)
set_option maxRecDepth 20000 in
set_option maxHeartbeats 1000000 in
theorem snap_any (g v f : Nat) (D : DiskV) (q : HdV) (m : Int) (n : Nat) (rv : Value) (w : World) (h : VS w g v D q m n) (hf : FndAt w f false ⟨#[]⟩ rv) (h1 : g ≠ f) (h2 : v ≠ f) (h3 : ∀ k, blk (.slice q.lo q.ll q.lc) = some k → k ≠ f) (ht : ∀ W, Ch3 w W g v f → Tab W) :
    Calls Tryz.prog 64 #[.pointer (some ⟨v, 0, none⟩), .pointer (some ⟨f, 0, none⟩)] w fun e w' => e = .returned (.int .i64 (snapV D q.hv).1) ∧ VS w' g v D q m n ∧ FndAt w' f (snapV D q.hv).2.1 (snapV D q.hv).2.2 rv ∧ Ch3 w w' g v f := by
  have k0 := h.vlt.c0
  have k3 := h.vlt.c3
  have H := Kp.mk h
  have HFd := Kp.mk hf
  have hsn : q.hv.snap = q.snap := rfl
  unfold snapV
  rw [hsn]
  clear hsn
  by_cases hz : q.snap = 0
  · rw [if_pos hz]
    rw [hz] at k3
    clear h hf
    go_enter Tryz.func64, Tryz.ntmps64
    go_wp2
    go_ret
    exact ⟨rfl, H.out, HFd.out, Ch3.of (Ch2.refl _ _ _) f⟩
  · rw [if_neg hz]
    have hzf : (q.snap == 0) = false := by rw [beq_eq_false_iff_ne]; exact hz
    have HR := Kp.mk (dRead_any g D q.snap w.drew h.drew.disk)
    have hrs := read_size h.ok q.snap
    obtain ⟨y0, y1, y2⟩ : w.cell? ⟨f, 0, none⟩ = some (.bool false) ∧ w.cell? ⟨f, 1, none⟩ = some (.string ⟨#[]⟩) ∧ w.cell? ⟨f, 2, none⟩ = some rv := by
      unfold FndAt at hf
      refine ⟨?_, ?_, ?_⟩ <;> simp [World.cell?, hf]
    generalize readV D q.snap = r at HR hrs ⊢
    obtain ⟨s, e1⟩ := r
    simp only [] at HR hrs ⊢
    have HOn := Kp.mk (One_any s 2 w.drew (by omega) (by decide) h.drew.tab.now)
    have hone : (oneV s 2).2 = false → (oneV s 2).1 = ⟨#[]⟩ := by unfold oneV; split <;> simp
    generalize oneV s 2 = o at HOn hone ⊢
    obtain ⟨ps, is⟩ := o
    simp only [] at HOn hone ⊢
    generalize q.snap = sn at *
    clear h hf
    by_cases he : e1 = 0
    · subst he
      rw [if_neg (by simp)]
      go_enter Tryz.func64, Tryz.ntmps64
      go_wp2_with fail
      go_region_held3 (fun w' => w'.cell? ⟨v, 0, none⟩ = some (.pointer (some ⟨g, 0, none⟩)) ∧ w'.cell? ⟨v, 3, none⟩ = some (.int .i64 sn)) (go_keep)
        (first
          | (go_at_call 97; refine HR.out.mono ?_; rintro e wu ⟨rfl, rfl⟩))
      go_wp2_with fail
      refine HOn.out.mono ?_
      rintro e w1 ⟨rfl, b1⟩
      have HB1 := Kp.mk ((Below.refl w.heap.size w).drew.trans b1)
      have S1 := Kp.mk (H.out.below HB1.out)
      have X1 : Kp (FndAt w1 f false ⟨#[]⟩ rv) := ⟨(HB1.out.block f (lt_of_block' HFd.out)).trans HFd.out⟩
      have T1 : Kp (∀ W, Ch3 w1 W g v f → Tab W) := ⟨fun W hW => ht W ((Ch3.of (Ch2.of_below HB1.out g v) f).trans hW)⟩
      have z0 : w1.cell? ⟨f, 0, none⟩ = some (.bool false) := by have := X1.out; unfold FndAt at this; simp [World.cell?, this]
      have z1 : w1.cell? ⟨f, 1, none⟩ = some (.string ⟨#[]⟩) := by have := X1.out; unfold FndAt at this; simp [World.cell?, this]
      have fr0 : w1.frozen? ⟨f, 0, none⟩ = false := by have := X1.out; unfold FndAt at this; simp [World.frozen?, this]
      have fr1 : w1.frozen? ⟨f, 1, none⟩ = false := by have := X1.out; unfold FndAt at this; simp [World.frozen?, this]
      have HS2 : Kp (VS ((w1.setCell ⟨f, 1, none⟩ (.string ps)).setCell ⟨f, 0, none⟩ (.bool is)) g v D q m n) := ⟨(S1.out.setf _ h1 h2 h3 T1.out).setf _ h1 h2 h3 (fun W hW => T1.out W ((Ch3.setf _ _ _ _ _ _).trans hW))⟩
      have HX2 : Kp (FndAt ((w1.setCell ⟨f, 1, none⟩ (.string ps)).setCell ⟨f, 0, none⟩ (.bool is)) f is ps rv) := ⟨f_cells (f_cells X1.out 1 _) 0 _⟩
      have HC2 : Kp (Ch3 w ((w1.setCell ⟨f, 1, none⟩ (.string ps)).setCell ⟨f, 0, none⟩ (.bool is)) g v f) := ⟨((Ch3.of (Ch2.of_below HB1.out g v) f).trans (Ch3.setf _ _ _ _ _ _)).trans (Ch3.setf _ _ _ _ _ _)⟩
      clear b1 HOn HR
      cases is
      · have hp := hone rfl
        subst hp
        go_wp2
        go_ret
        exact ⟨rfl, HS2.out, HX2.out, HC2.out⟩
      · go_wp2
        go_ret
        exact ⟨rfl, HS2.out, HX2.out, HC2.out⟩
    · rw [if_pos he]
      have t1 : (e1 == 0) = false := by rw [beq_eq_false_iff_ne]; exact he
      go_enter Tryz.func64, Tryz.ntmps64
      go_wp2_with fail
      go_region_held3 (fun w' => w'.cell? ⟨v, 0, none⟩ = some (.pointer (some ⟨g, 0, none⟩)) ∧ w'.cell? ⟨v, 3, none⟩ = some (.int .i64 sn)) (go_keep)
        (first
          | (go_at_call 97; refine HR.out.mono ?_; rintro e wu ⟨rfl, rfl⟩))
      go_wp2
      go_ret
      exact ⟨rfl, H.out.drew, HFd.out, Ch3.of (Ch2.refl _ _ _).dr f⟩
end Go.Proofs.YtpfoekfbcpinlaaGreatDoor
/- vault: tape. -/
namespace Go.Proofs.YtpfoekfbcpinlaaGreatDoor
open Go.RowKit
set_option linter.unusedVariables false

def recC (L : List (List UInt8)) : List Value := L.map fun p => .string (B p)
theorem recC_len (L : List (List UInt8)) : (recC L).length = L.length := by simp [recC]
theorem recC_append (L M : List (List UInt8)) : recC (L ++ M) = recC L ++ recC M := by simp [recC]
theorem recC_one (L : List (List UInt8)) : ∀ u ∈ recC L, u.oneCell' = true := by
  intro u hu
  simp only [recC, List.mem_map] at hu
  obtain ⟨p, _, rfl⟩ := hu
  rfl
theorem recC_get (L : List (List UInt8)) (i : Nat) (h : i < L.length) : (recC L)[i]? = some (.string (B L[i])) := by simp [recC, h]
theorem fr_get (l : List FrV) (i : Nat) (h : i < l.length) : (l.flatMap FrV.cells)[i * 3]? = some (.int .u8 l[i].k) ∧ (l.flatMap FrV.cells)[i * 3 + 1]? = some (.string (B l[i].p)) ∧ (l.flatMap FrV.cells)[i * 3 + 2]? = some (.int .i64 l[i].a) := by
  induction l generalizing i with
  | nil => simp at h
  | cons m r ih =>
    have e : (m :: r).flatMap FrV.cells = .int .u8 m.k :: .string (B m.p) :: .int .i64 m.a :: r.flatMap FrV.cells := by simp [FrV.cells]
    cases i with
    | zero => rw [e]; exact ⟨rfl, rfl, rfl⟩
    | succ i =>
      have h' : i < r.length := by simpa using h
      obtain ⟨a, b, c⟩ := ih i h'
      rw [e, show (i + 1) * 3 = i * 3 + 1 + 1 + 1 from by omega, show i * 3 + 1 + 1 + 1 + 1 = (i * 3 + 1) + 1 + 1 + 1 from rfl, show i * 3 + 1 + 1 + 1 + 2 = (i * 3 + 2) + 1 + 1 + 1 from by omega]
      simp only [List.getElem?_cons_succ, List.getElem_cons_succ]
      exact ⟨a, b, c⟩
theorem infoString : (Tryz.prog.info? 9).map (fun i => (i.zero, i.size, i.bytes)) = some (some (.string ⟨#[]⟩), 1, 16) := by kernel_rfl
def recsOk (l : List FrV) (k : Nat) : Prop := ∀ i, (h : i < l.length) → i < k → l[i].k = 1
/-- What tape finds on a tape, its error, the disk it leaves. -/
def tapeV (D : DiskV) (h : Hd.HV) (t : Int) : List (List UInt8) × Int × DiskV :=
  if (readV D t).2 ≠ 0 then ([], (readV D t).2, D)
  else if (scanL (readV D t).1.data.toList 0).1.all (fun f => f.k == 1) = false then ([], 4, D)
  else if (scanL (readV D t).1.data.toList 0).2 = (readV D t).1.size then ((scanL (readV D t).1.data.toList 0).1.map FrV.p, 0, D)
  else if t ≠ lastT h then ([], 42, D)
  else ((scanL (readV D t).1.data.toList 0).1.map FrV.p, (trimV D t (scanL (readV D t).1.data.toList 0).2).1, (trimV D t (scanL (readV D t).1.data.toList 0).2).2)
theorem scan_len (l : List UInt8) : ∀ (m p : Nat), l.length - p ≤ m → (scanL l p).1.length ≤ m ∧ (p ≤ l.length → (scanL l p).2 ≤ l.length)
  | m, p, hm => by
    by_cases h : (Fr.readL (l.drop p)).1 = 0
    · obtain ⟨h1, h2⟩ := frAt_next h
      rw [scanL_ok h]
      match m with
      | 0 => omega
      | m + 1 =>
        obtain ⟨a, b⟩ := scan_len l m (frAt l p).next (by omega)
        exact ⟨by simp only [List.length_cons]; omega, fun _ => b h2⟩
    · rw [scanL_end h]
      exact ⟨Nat.zero_le _, id⟩
set_option maxRecDepth 20000 in
set_option maxHeartbeats 4000000 in
theorem tape_go (g v : Nat) (D : DiskV) (q : HdV) (m : Int) (n : Nat) (t : Int) (w : World) (h : VS w g v D q m n) (hl : 0 < q.ll) (ht1 : -9223372036854775808 ≤ t) (ht2 : t ≤ 9223372036854775807) :
    Calls Tryz.prog 99 #[.pointer (some ⟨v, 0, none⟩), .int .i64 t] w fun e w' => ∃ ao cap, e = .returned (.tuple #[.slice ao (tapeV D q.hv t).1.length cap, .int .i64 (tapeV D q.hv t).2.1]) ∧ RK 1 w' (.slice ao (tapeV D q.hv t).1.length cap) (tapeV D q.hv t).1.length (recC (tapeV D q.hv t).1) ∧ (∀ k, blk (.slice ao (tapeV D q.hv t).1.length cap) = some k → w.heap.size ≤ k) ∧ VS w' g v (tapeV D q.hv t).2.2 q m n ∧ Ch2 w w' g v := by
  have k0 := h.vlt.c0
  have H := Kp.mk h
  have HR := Kp.mk (dRead_any g D t w h.disk)
  have hrs := read_size h.ok t
  have HTr := Kp.mk (fun W (k : Nat) (hW : Below w.heap.size w W) => (Trim_any g D t k W (h.below hW).disk h.ok).mono fun e w' (hh : _ ∧ _ ∧ _) => And.intro hh.1 (And.intro ((h.below hW).chg hh.2.2 hh.2.1 (h.ok.trim t k)) hh.2.2))
  have HLa := Kp.mk (fun W (hW : Below w.heap.size w W) => last_any g v D q m n W (h.below hW) hl)
  unfold tapeV
  generalize readV D t = r at HR hrs ⊢
  obtain ⟨s, e1⟩ := r
  simp only [] at HR hrs ⊢
  by_cases he : e1 = 0
  · subst he
    rw [if_neg (show ¬ ((0 : Int) ≠ 0) by simp)]
    have HSc := Kp.mk (Scan_any s 0 w (by omega) (by decide) (by decide) h.tab.now)
    have hsv : scanV s 0 = scanL s.data.toList 0 := by unfold scanV; rw [if_neg (by omega)]; rfl
    rw [hsv] at HSc
    obtain ⟨hln, hgd⟩ := scan_len s.data.toList s.data.toList.length 0 (by omega)
    have hgd := hgd (Nat.zero_le _)
    have hsz : s.data.toList.length = s.size := by simp
    rw [hsz] at hln hgd
    generalize scanL s.data.toList 0 = Z at HSc hln hgd ⊢
    obtain ⟨l, gd⟩ := Z
    simp only [] at HSc hln hgd ⊢
    obtain ⟨V, hV⟩ : ∃ V, V = (if (l.all fun f => f.k == 1) = false then ([], 4, D) else if gd = s.size then (l.map FrV.p, 0, D) else if t ≠ lastT q.hv then ([], 42, D) else (l.map FrV.p, (trimV D t gd).1, (trimV D t gd).2) : List (List UInt8) × Int × DiskV) := ⟨_, rfl⟩
    rw [← hV]
    have HV := Kp.mk hV
    generalize lastT q.hv = la at HV HLa
    clear h hV hsv hsz
    obtain ⟨i0, hi0, hi1, hi2, hi3⟩ := info_parts infoString
    have HI0 := Kp.mk (And.intro hi0 (And.intro hi1 (And.intro hi2 hi3)))
    clear hi0 hi1 hi2 hi3
    go_enter Tryz.func99, Tryz.ntmps99
    go_wp2_with fail
    refine HR.out.mono ?_
    rintro e w1 ⟨rfl, rfl⟩
    go_wp2_with fail
    refine HSc.out.mono ?_
    rintro e w2 ⟨fv, rfl, hr, hnw, hb⟩
    obtain ⟨fo, fc, rfl, _, _⟩ := hr.len
    have B2 := Kp.mk hb
    have HFr := Kp.mk hr
    clear hr hnw hb HSc HR
    go_wp2
    go_loopw [8, 32] (fun s i wr => ∃ (k : Nat) (ao : Option Addr) (cap : Nat), i = .int .i64 k ∧ k ≤ l.length ∧ recsOk l k ∧ s = .slice ao k cap ∧ RK 1 wr (.slice ao k cap) k (recC ((l.map FrV.p).take k)) ∧ (∀ j, blk (.slice ao k cap) = some j → w2.heap.size ≤ j) ∧ Below w2.heap.size w2 wr) (fun _ i _ => l.length - (intOf i).toNat)
    case atStart => exact ⟨0, none, 0, rfl, Nat.zero_le _, fun i _ hi => absurd hi (Nat.not_lt_zero i), rfl, RK.nil 1 _, fun k hk => by simp [blk] at hk, Below.refl _ _⟩
    case round =>
      obtain ⟨k, ao, cap, rfl, hk, hok, rfl, hro, hno, hbo⟩ := hrel
      by_cases hk2 : k < l.length
      · obtain ⟨fg, fcp, hfv, _, _, _, _⟩ := HFr.out.at_ (by omega)
        simp only [Value.slice.injEq] at hfv
        obtain ⟨rfl, _, rfl⟩ := hfv
        obtain ⟨g1, g2, g3⟩ := fr_get l k hk2
        have hfr := HFr.out.below hbo
        have a1 := hfr.cell _ _ g1
        have a2 := hfr.cell _ _ g2
        have a3 := hfr.cell _ _ g3
        have HTk : Kp (recC ((l.map FrV.p).take (k + 1)) = recC ((l.map FrV.p).take k) ++ [.string (B l[k].p)]) := ⟨by
          rw [List.take_add_one, recC_append]
          simp [hk2, recC]⟩
        have HOk1 : Kp (l[k].k = 1 → recsOk l (k + 1)) := ⟨fun h i hi hik => by
          by_cases e : i = k
          · subst e; exact h
          · exact hok i hi (by omega)⟩
        have HBad : Kp (l[k].k ≠ 1 → (l.all fun f => f.k == 1) = false) := ⟨fun h => by
          rw [← Bool.not_eq_true, List.all_eq_true]
          intro hall
          have := hall l[k] (List.getElem_mem hk2)
          exact h (by simpa using this)⟩
        generalize l[k] = fr at a1 a2 a3 HTk HOk1 HBad
        obtain ⟨fk, fp, fa⟩ := fr
        simp only [] at a1 a2 a3 HTk HOk1 HBad
        have RO := Kp.mk hro
        have NO := Kp.mk hno
        have BO := Kp.mk hbo
        have i1 : (0 : Int) ≤ (k : Int) := by omega
        have i2 : (k : Int) < (l.length : Int) := by omega
        have HKl : Kp (k < 2000000) := ⟨by omega⟩
        clear hro hno hbo g1 g2 g3 hfr hok
        by_cases h1 : fk = 1
        · subst h1
          have HB2 : Kp (∀ o1 o2, Below wr.heap.size wr ((wr.alloc o1).alloc o2)) := ⟨fun o1 o2 => ((Below.refl _ _).alloc (Nat.le_refl _) _).alloc (by simp) _⟩
          have HSrc : Kp (∀ o1 T, Src 1 ((wr.alloc o1).alloc (.cells #[.string (B fp)] T)) (.slice (some ⟨wr.heap.size + 1, 0, none⟩) 1 1) 1 [.string (B fp)]) := ⟨fun o1 T => src_one (heap_second wr _ _) rfl⟩
          go_wp2_with (at_builtin; go_loud (refine wpList_append_src rfl _ _ 22 rfl (RO.out.below (HB2.out _ _)) (HSrc.out _ _) 9 i0 _ 16 Tryz.underlying22 HI0.out.1 HI0.out.2.1 HI0.out.2.2.1 HI0.out.2.2.2 rfl (by decide) (by rfl) (by rfl) (recC_one [fp]) (by have := HKl.out; unfold maxLen; omega) (by have := HKl.out; omega) (k + 1) (recC ((l.map FrV.p).take (k + 1))) rfl HTk.out.symm ?_; intro a3 c3 w3 r3 g3 f3; have N4 := Kp.mk (New.of (w := w2) (B := w2.heap.size) (BO.out.trans ((HB2.out _ _).mono BO.out.size)) (by simp; have := BO.out.size; omega) g3 f3 NO.out); have R3 := Kp.mk r3; clear g3 f3 r3))
          go_roundw
          case rel => exact ⟨k + 1, a3, c3, by go_num, by omega, HOk1.out rfl, by go_num, R3.out, N4.out.new, N4.out.below⟩
          case measure => simp [intOf]; omega
        · have t1 : ((fk : Int) == 1) = false := by rw [beq_eq_false_iff_ne]; omega
          have hVb : V = ([], 4, D) := by rw [HV.out, if_pos (HBad.out h1)]
          subst hVb
          go_wp2
          go_ret2
          exact ⟨none, 0, rfl, RK.nil 1 _, fun k hk => by simp [blk] at hk, (H.out.below ((B2.out.trans (BO.out.mono B2.out.size)).alloc (Nat.le_trans B2.out.size BO.out.size) _)), Ch2.of_below ((B2.out.trans (BO.out.mono B2.out.size)).alloc (Nat.le_trans B2.out.size BO.out.size) _) g v⟩
      · obtain rfl : k = l.length := by omega
        have hall : (l.all fun f => f.k == 1) = true := by
          rw [List.all_eq_true]
          intro f hf
          obtain ⟨i, hi, rfl⟩ := List.getElem_of_mem hf
          simpa using hok i hi hi
        have HV2 : Kp (V = if gd = s.size then (l.map FrV.p, 0, D) else if t ≠ la then ([], 42, D) else (l.map FrV.p, (trimV D t gd).1, (trimV D t gd).2)) := ⟨by rw [HV.out, if_neg (by rw [hall]; simp)]⟩
        have RO : Kp (RK 1 wr (.slice ao l.length cap) l.length (recC (l.map FrV.p))) := ⟨by have := hro; rw [List.take_of_length_le (by simp)] at this; exact this⟩
        have NO : Kp (∀ j, blk (.slice ao l.length cap) = some j → w.heap.size ≤ j) := ⟨fun j hj => Nat.le_trans B2.out.size (hno j hj)⟩
        have NO2 := Kp.mk hno
        have BW : Kp (Below w.heap.size w wr) := ⟨B2.out.trans (hbo.mono B2.out.size)⟩
        clear hro hno hbo hok hall HV
        by_cases hg : gd = s.size
        · have hVb : V = (l.map FrV.p, 0, D) := by rw [HV2.out, if_pos hg]
          subst hg hVb
          go_wp2
          go_ret2
          refine ⟨ao, cap, ?_, ?_, ?_, H.out.below BW.out, Ch2.of_below BW.out g v⟩
          · rfl
          · exact RO.out
          · exact NO.out
        · have t1 : ((gd : Int) == (s.size : Int)) = false := by rw [beq_eq_false_iff_ne]; omega
          go_wp2_with fail
          refine (HLa.out _ BW.out).mono ?_
          rintro e w4 ⟨rfl, kk, rfl⟩
          have HWX : Kp (Below w.heap.size w (wr.drewN kk)) := ⟨⟨BW.out.os, BW.out.tape, BW.out.output, BW.out.size, BW.out.block⟩⟩
          by_cases hla : t = la
          · subst hla
            have hVb : V = (l.map FrV.p, (trimV D t gd).1, (trimV D t gd).2) := by rw [HV2.out, if_neg hg, if_neg (by simp)]
            subst hVb
            have k04 := (H.out.below HWX.out).vlt.c0
            have hgl := H.out.disk.lt
            go_wp2_with fail
            refine (HTr.out _ gd HWX.out).mono ?_
            rintro e w5 ⟨rfl, s5, c5⟩
            have S5 := Kp.mk s5
            have C5 := Kp.mk c5
            have R5 : Kp (RK 1 w5 (.slice ao l.length cap) l.length (recC (l.map FrV.p))) := ⟨RK.same (w := wr.drewN kk) RO.out c5.size fun j hj => c5.block j (RO.out.lt j hj) (fun e => by have h1 := NO.out j hj; have h2 := Option.some.inj e; omega)⟩
            clear s5 c5
            go_wp2
            go_ret2
            refine ⟨ao, cap, ?_, ?_, ?_, S5.out, (Ch2.of_below HWX.out g v).trans (Ch2.of_chg C5.out v)⟩
            · rfl
            · exact R5.out
            · exact NO.out
          · have t2 : (t == la) = false := by rw [beq_eq_false_iff_ne]; exact hla
            have hVb : V = ([], 42, D) := by rw [HV2.out, if_neg hg, if_pos hla]
            subst hVb
            go_wp2
            go_ret2
            exact ⟨none, 0, rfl, RK.nil 1 _, fun k hk => by simp [blk] at hk, H.out.below HWX.out, Ch2.of_below HWX.out g v⟩
  · rw [if_pos he]
    have t1 : (e1 == 0) = false := by rw [beq_eq_false_iff_ne]; exact he
    clear h
    go_enter Tryz.func99, Tryz.ntmps99
    go_wp2_with fail
    refine HR.out.mono ?_
    rintro e w1 ⟨rfl, rfl⟩
    go_wp2
    go_ret2
    exact ⟨none, 0, rfl, RK.nil 1 _, fun k hk => by simp [blk] at hk, H.out, Ch2.refl _ _ _⟩
end Go.Proofs.YtpfoekfbcpinlaaGreatDoor
/- vault: records. -/
namespace Go.Proofs.YtpfoekfbcpinlaaGreatDoor
open Go.RowKit
set_option linter.unusedVariables false

/-- What records finds on the first k of the log's tapes. -/
def recS (D : DiskV) (h : Hd.HV) : Nat → List (List UInt8) × Int × DiskV
  | 0 => ([], 0, D)
  | k + 1 => if (recS D h k).2.1 ≠ 0 then recS D h k
    else if (tapeV (recS D h k).2.2 h (h.log.getD k 0)).2.1 ≠ 0 then ((recS D h k).1, (tapeV (recS D h k).2.2 h (h.log.getD k 0)).2.1, (tapeV (recS D h k).2.2 h (h.log.getD k 0)).2.2)
    else ((recS D h k).1 ++ (tapeV (recS D h k).2.2 h (h.log.getD k 0)).1, 0, (tapeV (recS D h k).2.2 h (h.log.getD k 0)).2.2)
theorem recS_err {D : DiskV} {h : Hd.HV} {k : Nat} (he : (recS D h k).2.1 ≠ 0) : ∀ j, k ≤ j → recS D h j = recS D h k
  | 0, hj => by obtain rfl : k = 0 := by omega
                rfl
  | j + 1, hj => by
    rcases Nat.lt_or_ge j k with h1 | h1
    · obtain rfl : k = j + 1 := by omega
      rfl
    · have ih := recS_err he j h1
      rw [recS, ih, if_pos he]
theorem tapeV_len {D : DiskV} (ho : Ok D) (h : Hd.HV) (t : Int) : (tapeV D h t).1.length ≤ 1048576 ∧ Ok (tapeV D h t).2.2 := by
  have hs := read_size ho t
  have hl := (scan_len (readV D t).1.data.toList (readV D t).1.data.toList.length 0 (by omega)).1
  have hz : (readV D t).1.data.toList.length = (readV D t).1.size := by simp
  unfold tapeV
  split
  · exact ⟨by simp, ho⟩
  · split
    · exact ⟨by simp, ho⟩
    · split
      · exact ⟨by simp only [List.length_map]; omega, ho⟩
      · split
        · exact ⟨by simp, ho⟩
        · exact ⟨by simp only [List.length_map]; omega, ho.trim _ _⟩
set_option maxRecDepth 20000 in
theorem recS_len {D : DiskV} (ho : Ok D) (h : Hd.HV) : ∀ k, (recS D h k).1.length ≤ k * 1048576 ∧ Ok (recS D h k).2.2
  | 0 => ⟨by simp [recS], ho⟩
  | k + 1 => by
    obtain ⟨h1, h2⟩ := recS_len ho h k
    obtain ⟨t1, t2⟩ := tapeV_len h2 h (h.log.getD k 0)
    rw [Nat.succ_mul]
    generalize k * 1048576 = Z at h1 ⊢
    rw [recS]
    split
    · exact ⟨by omega, h2⟩
    · split
      · exact ⟨by simp only []; omega, t2⟩
      · exact ⟨by simp only [List.length_append]; omega, t2⟩
theorem Ch3.below {w w1 w2 : World} {g v f : Nat} (h : Ch3 w w1 g v f) (hb : Below w.heap.size w1 w2) : Ch3 w w2 g v f :=
  ⟨hb.os.trans h.os, hb.tape.trans h.tape, hb.output.trans h.output, Nat.le_trans h.size hb.size, fun k hk a b c => (hb.block k hk).trans (h.block k hk a b c)⟩
theorem VS.over {w w' : World} {g v B : Nat} {D : DiskV} {q : HdV} {m : Int} {n : Nat} (h : VS w g v D q m n) (hb : Below B w w') (h1 : g < B) (h2 : v < B) (h3 : ∀ k, blk (.slice q.lo q.ll q.lc) = some k → k < B) (ht : TabK w' g v) : VS w' g v D q m n :=
  ⟨h.disk.same (hb.block g h1), ⟨(hb.block v h2).trans h.vlt.box, h.vlt.row.same hb.size fun k hk => hb.block k (h3 k hk), h.vlt.off, h.vlt.ne, h.vlt.few⟩, h.ok, ht⟩
theorem VS.since {w : World} {g v : Nat} {D : DiskV} {q : HdV} {m : Int} {n : Nat} (h : VS w g v D q m n) (k : Nat) : VS (w.setCell ⟨v, 6, none⟩ (.int .i64 k)) g v D q m k :=
  ⟨h.disk.same (Below.heap_setCell w ⟨v, 6, none⟩ _ g h.vlt.ne), h.vlt.since k, h.ok, h.tab.next (Ch2.setv _ _ _ _ _)⟩
set_option maxRecDepth 20000 in
set_option maxHeartbeats 4000000 in
theorem records_any (g v f : Nat) (D : DiskV) (q : HdV) (m : Int) (n : Nat) (has : Bool) (sn : ByteArray) (w : World) (h : VS w g v D q m n) (hf : FndAt w f has sn (.slice none 0 0)) (h1 : g ≠ f) (h2 : v ≠ f) (h3 : ∀ k, blk (.slice q.lo q.ll q.lc) = some k → k ≠ f) (ht : ∀ W, Ch3 w W g v f → Tab W) (hl : 0 < q.ll) (hi : ∀ j, j < q.ll → i64 (q.lf j)) :
    Calls Tryz.prog 66 #[.pointer (some ⟨v, 0, none⟩), .pointer (some ⟨f, 0, none⟩)] w fun e w' => e = .returned (.int .i64 (recS D q.hv q.ll).2.1) ∧ (∃ ao cap k, FndAt w' f has sn (.slice ao k cap) ∧ ((recS D q.hv q.ll).2.1 = 0 → k = (recS D q.hv q.ll).1.length ∧ RK 1 w' (.slice ao k cap) k (recC (recS D q.hv q.ll).1) ∧ ∀ j, blk (.slice ao k cap) = some j → w.heap.size ≤ j)) ∧ VS w' g v (recS D q.hv q.ll).2.2 q m (if (recS D q.hv q.ll).2.1 = 0 then (recS D q.hv q.ll).1.length else n) ∧ Ch3 w w' g v f := by
  have k4 := h.vlt.c4
  have hfew := h.vlt.few
  have H := Kp.mk h
  have HFd := Kp.mk hf
  have hlg := h.disk.lt
  have hlv := h.vlt.lt
  have hlf : f < w.heap.size := lt_of_block' hf
  have hrw := h.vlt.row.lt
  have HTK : Kp (∀ W, Ch3 w W g v f → TabK W g v) := ⟨fun W hW V hV => ht V (hW.trans (Ch3.of hV f))⟩
  have HLen := Kp.mk (recS_len h.ok q.hv)
  have HLog : Kp (∀ k, k < q.ll → q.hv.log.getD k 0 = q.lf k) := ⟨fun k hk => by
    show (rowI q.lf q.ll).getD k 0 = q.lf k
    rw [List.getD_eq_getElem?_getD]
    simp [rowI, hk]⟩
  have HTape := Kp.mk (fun W E n' (t : Int) (hW : VS W g v E q m n') (a : -9223372036854775808 ≤ t) (b : t ≤ 9223372036854775807) => tape_go g v E q m n' t W hW hl a b)
  obtain ⟨lg, lcap, hlo, _, _, _, _⟩ := h.vlt.row.at_ hl
  simp only [Value.slice.injEq] at hlo
  obtain ⟨hlo1, _, hlo2⟩ := hlo
  have HCell : Kp (∀ W E n', VS W g v E q m n' → ∀ k, k < q.ll → W.cell? ⟨lg, k, none⟩ = some (.int .i64 (q.lf k))) := ⟨fun W E n' hW k hk => by
    have hr := hW.vlt.row
    rw [hlo1] at hr
    exact hr.cell k _ (numL_get _ _ _ hk)⟩
  rw [hlo1] at k4
  obtain ⟨i0, hi0, hi1, hi2, hi3⟩ := info_parts infoString
  have HI0 := Kp.mk (And.intro hi0 (And.intro hi1 (And.intro hi2 hi3)))
  clear hi0 hi1 hi2 hi3 h hf hlo1
  obtain ⟨F, hF⟩ : ∃ F, F = recS D q.hv q.ll := ⟨_, rfl⟩
  rw [← hF]
  have HFn := Kp.mk hF
  clear hF
  obtain ⟨FL, Fz, FD⟩ := F
  simp only []
  go_enter Tryz.func66, Tryz.ntmps66
  go_wp2
  go_loopw [15] (fun i wr => ∃ (k : Nat) (ao : Option Addr) (cap : Nat), i = .int .i64 k ∧ k ≤ q.ll ∧ (recS D q.hv k).2.1 = 0 ∧ VS wr g v (recS D q.hv k).2.2 q m n ∧ FndAt wr f has sn (.slice ao (recS D q.hv k).1.length cap) ∧ RK 1 wr (.slice ao (recS D q.hv k).1.length cap) (recS D q.hv k).1.length (recC (recS D q.hv k).1) ∧ (∀ j, blk (.slice ao (recS D q.hv k).1.length cap) = some j → w.heap.size ≤ j) ∧ Ch3 w wr g v f) (fun i _ => q.ll - (intOf i).toNat)
  case atStart => exact ⟨0, none, 0, rfl, Nat.zero_le _, rfl, H.out, HFd.out, RK.nil 1 _, fun k hk => by simp [blk] at hk, Ch3.of (Ch2.refl _ _ _) f⟩
  case round =>
    obtain ⟨k, ao, cap, rfl, hk, he0, hs, hfd, hrk, hnw, hch⟩ := hrel
    have hLk := (HLen.out k).1
    by_cases hk2 : k < q.ll
    · have a1 := HCell.out wr _ _ hs k hk2
      have hstep : recS D q.hv (k + 1) = if (tapeV (recS D q.hv k).2.2 q.hv (q.lf k)).2.1 ≠ 0 then ((recS D q.hv k).1, (tapeV (recS D q.hv k).2.2 q.hv (q.lf k)).2.1, (tapeV (recS D q.hv k).2.2 q.hv (q.lf k)).2.2)
          else ((recS D q.hv k).1 ++ (tapeV (recS D q.hv k).2.2 q.hv (q.lf k)).1, 0, (tapeV (recS D q.hv k).2.2 q.hv (q.lf k)).2.2) := by
        rw [recS, if_neg (by rw [he0]; simp), HLog.out k hk2]
      have HSt := Kp.mk hstep
      have hik := hi k hk2
      have HTp := Kp.mk (HTape.out wr _ _ (q.lf k) hs hik.1 hik.2)
      have htl := (tapeV_len (HLen.out k).2 q.hv (q.lf k)).1
      have HEr := Kp.mk (fun (hh : (recS D q.hv (k + 1)).2.1 ≠ 0) => recS_err hh q.ll (by omega))
      generalize recS D q.hv k = r at hs hfd hrk hnw HSt HTp htl he0 hLk
      obtain ⟨L, z, D1⟩ := r
      simp only [] at hs hfd hrk hnw HSt HTp htl he0 hLk
      subst he0
      generalize tapeV D1 q.hv (q.lf k) = t at HSt HTp htl
      obtain ⟨M, z, D2⟩ := t
      simp only [] at HSt HTp htl
      generalize q.lf k = x at a1 HTp hik
      have S := Kp.mk hs
      have Fd := Kp.mk hfd
      have RR := Kp.mk hrk
      have NW := Kp.mk hnw
      have CH := Kp.mk hch
      clear hs hfd hrk hnw hch hstep
      have j1 : (0 : Int) ≤ (k : Int) := by omega
      have j2 : (k : Int) < (q.ll : Int) := by omega
      go_wp2_with fail
      refine HTp.out.mono ?_
      rintro e w2 ⟨bo, bc, rfl, r2, n2, s2, c2⟩
      have S2 := Kp.mk s2
      have R2 := Kp.mk r2
      have C2 := Kp.mk c2
      have X2 : Kp (FndAt w2 f has sn (.slice ao L.length cap)) := ⟨c2.heap Fd.out (fun e => h1 e.symm) (fun e => h2 e.symm)⟩
      have RR2 : Kp (RK 1 w2 (.slice ao L.length cap) L.length (recC L)) := ⟨RR.out.same c2.size fun j hj => c2.block j (RR.out.lt j hj) (by have := NW.out j hj; omega) (by have := NW.out j hj; omega)⟩
      have CH2 : Kp (Ch3 w w2 g v f) := ⟨CH.out.trans (Ch3.of c2 f)⟩
      clear s2 r2 c2 n2 HTp RR Fd CH
      by_cases hz : z = 0
      · subst hz
        have hS1 : Kp (recS D q.hv (k + 1) = (L ++ M, 0, D2)) := ⟨by rw [HSt.out, if_neg (by simp)]⟩
        have u2 : w2.cell? ⟨f, 2, none⟩ = some (.slice ao L.length cap) := by have := X2.out; unfold FndAt at this; simp [World.cell?, this]
        have HLl : Kp (L.length + M.length ≤ 40000000) := ⟨by omega⟩
        have hszw : w.heap.size ≤ w2.heap.size := CH2.out.size
        go_wp2_with (at_builtin; go_loud (refine wpList_append_src rfl _ _ 22 rfl RR2.out R2.out.src 9 i0 _ 16 Tryz.underlying22 HI0.out.1 HI0.out.2.1 HI0.out.2.2.1 HI0.out.2.2.2 rfl (by decide) (by rfl) (by rfl) (recC_one M) (by have := HLl.out; unfold maxLen; omega) (by have := HLl.out; omega) (L.length + M.length) (recC (L ++ M)) rfl (recC_append L M).symm ?_; intro a3 c3 w3 r3 g3 f3; have N3 := Kp.mk (New.of (w := w2) (B := w.heap.size) (Below.refl _ _ |>.mono hszw) hszw g3 f3 NW.out); have R3 := Kp.mk r3; have X3 : Kp (FndAt w3 f has sn (.slice ao L.length cap)) := ⟨(N3.out.below.block f hlf).trans X2.out⟩; have u3 : w3.cell? ⟨f, 2, none⟩ = some (.slice ao L.length cap) := (by have := X3.out; unfold FndAt at this; simp [World.cell?, this]); have fr3 : w3.frozen? ⟨f, 2, none⟩ = false := (by have := X3.out; unfold FndAt at this; simp [World.frozen?, this]); clear g3 f3 r3))
        have CH3 : Kp (Ch3 w w3 g v f) := ⟨CH2.out.below N3.out.below⟩
        have S3 : Kp (VS w3 g v D2 q m n) := ⟨S2.out.over N3.out.below hlg hlv hrw (HTK.out _ CH3.out)⟩
        have S4 : Kp (VS (w3.setCell ⟨f, 2, none⟩ (.slice a3 (L.length + M.length) c3)) g v D2 q m n) := ⟨S3.out.setf _ h1 h2 h3 (fun W hW => ht W (CH3.out.trans hW))⟩
        go_roundw
        case rel =>
          refine ⟨k + 1, a3, c3, by go_num, by omega, by rw [hS1.out], by rw [hS1.out]; exact S4.out, ?_, ?_, ?_, CH3.out.trans (Ch3.setf _ _ _ _ _ _)⟩
          · rw [hS1.out]; simp only [List.length_append]; exact f_cells X3.out 2 _
          · rw [hS1.out]; simp only [List.length_append]
            exact R3.out.set _ _ fun j hj => by have := N3.out.new j hj; simp; omega
          · rw [hS1.out]; simp only [List.length_append]; exact N3.out.new
        case measure => simp [intOf]; omega
      · have t1 : (z == 0) = false := by rw [beq_eq_false_iff_ne]; exact hz
        have hS1 : Kp (recS D q.hv (k + 1) = (L, z, D2)) := ⟨by rw [HSt.out, if_pos hz]⟩
        rw [hS1.out] at HEr
        obtain ⟨rfl, hFz⟩ := Prod.mk.inj (HFn.out.trans (HEr.out hz))
        obtain ⟨rfl, rfl⟩ := Prod.mk.inj hFz
        clear hFz
        go_wp2
        go_ret
        exact ⟨rfl, ⟨ao, cap, _, X2.out⟩, S2.out, CH2.out⟩
    · obtain rfl : k = q.ll := by omega
      have S := Kp.mk hs
      have u2 : wr.cell? ⟨f, 2, none⟩ = some (.slice ao (recS D q.hv q.ll).1.length cap) := by have := hfd; unfold FndAt at this; simp [World.cell?, this]
      have c6 := hs.vlt.c6
      have fr6 := hs.vlt.free 6
      have Fd := Kp.mk hfd
      have RR := Kp.mk hrk
      have NW := Kp.mk hnw
      have CH := Kp.mk hch
      have HE0 := Kp.mk he0
      clear hs hfd hrk hnw hch
      have hFq := HFn.out
      generalize recS D q.hv q.ll = r at *
      subst hFq
      simp only [] at S u2 Fd RR NW HE0 he0
      subst he0
      have HFS := Kp.mk (S.out.since FL.length)
      go_wp2
      go_ret
      exact ⟨rfl, ⟨ao, cap, _, (Below.heap_setCell wr ⟨v, 6, none⟩ _ f (fun e => h2 e.symm)).trans Fd.out, rfl, RR.out.set _ _ fun j hj => (by have := NW.out j hj; simp; omega), NW.out⟩, HFS.out, CH.out.trans (Ch3.of (Ch2.setv _ _ _ _ _) f)⟩
end Go.Proofs.YtpfoekfbcpinlaaGreatDoor
