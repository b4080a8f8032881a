/- The walk of DiskNames: it returns true, and leaves what was there. -/
import Derived.Test.YtinjagebogifpaaDiskNil
import Derived.Test.YtinjagebogifpaaBig
namespace Go.Proofs.Ytinjagebogifpaa
open Go.RowKit
set_option linter.unusedVariables false

/-! ### Plain law -/
theorem write_ok {D : DiskV} (hc : D.counts = false) (hd : D.down = false) (k : Nat) (hk : k < 32) (s : ByteArray) (h1 : ¬ (1048576 : Int) - (D.tp k).b.size < s.size) (h2 : ¬ D.cap - used D.tp 32 < s.size) : writeV D k s = (0, setT D k ⟨(D.tp k).b ++ s, (D.tp k).firm⟩) := by
  unfold writeV opV
  have hf : failsV D = (false, D) := by unfold failsV; rw [if_pos hc]
  rw [if_neg (by rw [hd]; simp), if_neg (by omega), Int.toNat_natCast, if_neg (by unfold writeMay; rw [if_neg h1, if_neg h2]; simp), hf, if_neg (by simp)]
theorem write_big {D : DiskV} (hd : D.down = false) (k : Nat) (hk : k < 32) (s : ByteArray) (h1 : (1048576 : Int) - (D.tp k).b.size < s.size) : writeV D k s = (40, D) := by
  unfold writeV opV
  have hm : writeMay D (D.tp k).b s = 40 := by unfold writeMay; rw [if_pos h1]
  rw [if_neg (by rw [hd]; simp), if_neg (by omega), Int.toNat_natCast, if_pos (by rw [hm]; decide), hm]
theorem used_one (f : Nat → ByteArray × ByteArray) : ∀ k, used (loadT f 1) (k + 1) = (f 0).1.size + (f 0).2.size
  | 0 => by
    show 0 + ((f 0).1 ++ (f 0).2).size = _
    rw [ByteArray.size_append]; omega
  | k + 1 => by
    rw [used, used_one f k]
    show _ + (loadT f 1 (k + 1)).b.size = _
    unfold loadT
    rw [if_neg (by omega)]
    rfl
def z33 : Array Value := (List.replicate 66 (Value.string ⟨#[]⟩)).toArray
theorem make33 (w : World) : (Instr.makeSlice 22 (.int .i64 33) (.int .i64 33)).run Try.prog w = .ok (.slice (some ⟨w.heap.size, 0, none⟩) 33 33) (w.alloc (.cells z33 40 (0, 0))) := by kernel_rfl
/-- A row of tapes that was written out: two, or one. -/
theorem tapes_two (w : World) (a b c d : ByteArray) (ha : a.size ≤ 1048576) (hb : b.size ≤ 1048576) (hc : c.size ≤ 1048576) (hd : d.size ≤ 1048576) : TapesIn (w.alloc (.cells #[.string a, .string b, .string c, .string d] 40)) (some ⟨w.heap.size, 0, none⟩) 2 (fun i => if i = 0 then (a, b) else (c, d)) := fun W hW i hi => by
  have hb := (hW.block w.heap.size (by simp)).trans (heap_alloc_new w _)
  refine ⟨_, rfl, ?_⟩
  rw [Addr.add_lit, Nat.zero_add]
  match i, hi with
  | 0, _ => exact ⟨by simp only [if_true]; omega, by simp only [if_true]; omega, by rw [cell_of_row _ _ _ _ _ _ hb]; rfl, by show W.cell? ⟨w.heap.size, 1, none⟩ = _; rw [cell_of_row _ _ _ _ _ _ hb]; rfl⟩
  | 1, _ => exact ⟨by show c.size ≤ _; omega, by show d.size ≤ _; omega, by show W.cell? ⟨w.heap.size, 2, none⟩ = _; rw [cell_of_row _ _ _ _ _ _ hb]; rfl, by show W.cell? ⟨w.heap.size, 3, none⟩ = _; rw [cell_of_row _ _ _ _ _ _ hb]; rfl⟩
theorem tapes_one (w : World) (a b : ByteArray) (ha : a.size ≤ 1048576) (hb : b.size ≤ 1048576) : TapesIn (w.alloc (.cells #[.string a, .string b] 40)) (some ⟨w.heap.size, 0, none⟩) 1 (fun _ => (a, b)) := fun W hW i hi => by
  have hbk := (hW.block w.heap.size (by simp)).trans (heap_alloc_new w _)
  obtain rfl : i = 0 := by omega
  refine ⟨_, rfl, ?_⟩
  rw [Addr.add_lit, Nat.zero_add]
  exact ⟨by show a.size ≤ _; omega, by show b.size ≤ _; omega, by rw [cell_of_row _ _ _ _ _ _ hbk]; rfl, by show W.cell? ⟨w.heap.size, 1, none⟩ = _; rw [cell_of_row _ _ _ _ _ _ hbk]; rfl⟩
def sABCDE : ByteArray := ⟨#[97, 98, 99, 100, 101]⟩
def sF2K : ByteArray := ⟨#[102, 103, 104, 105, 106, 107]⟩
def fN : Nat → ByteArray × ByteArray := fun i => if i = 0 then (sABCDE, ⟨#[]⟩) else (⟨#[]⟩, sF2K)
def n0 : DiskV := loadD fN 11 2
def n1 : DiskV := (trimV n0 1 6).2
def n2 : DiskV := (failV n1 1).2
def n3 : DiskV := (failV n2 0).2
def n4 : DiskV := (wipeV n3 0).2
def n5 : DiskV := backV n4 0 (fun _ => 0)
def n6 : DiskV := (wipeV n5 0).2
theorem fN_big : ¬ big fN 2 := fun ⟨i, hi, h⟩ => by
  have : i = 0 ∨ i = 1 := by omega
  rcases this with rfl | rfl
  · exact absurd h (by decide)
  · exact absurd h (by decide)
theorem fN_used : used (loadT fN 2) 32 = 11 := by decide
theorem ok_n0 : Ok n0 := load_ok fN 11 2 fN_big (by decide) (by decide) (by rw [fN_used]; decide)
theorem ok_n1 : Ok n1 := ok_n0.trim _ _
theorem ok_n2 : Ok n2 := ok_n1.failV _ (by decide)
theorem ok_n3 : Ok n3 := ok_n2.failV _ (by decide)
theorem ok_n4 : Ok n4 := ok_n3.wipe _
theorem ok_n5 : Ok n5 := ok_n4.back _ _
theorem ok_n6 : Ok n6 := ok_n5.wipe _
theorem used_n4 : used n4.tp 32 = 11 := by decide
theorem used_n6 : used n6.tp 32 = 6 := by decide
set_option maxRecDepth 100000 in
set_option maxHeartbeats 16000000 in
theorem walkDiskNames (w : World) :
    Calls Try.prog 8 #[] w fun e w' => e = .returned (.bool true) ∧ Below w.heap.size w w' := by
  obtain ⟨O, U, hU, hmk, hcv⟩ := big_lit 1048576 1048576 rfl (by decide)
  have hmk33 := make33
  have HU := Kp.mk hU
  clear hU
  go_enter Try.func8, Try.ntmps8
  go_wp2_with fail
  refine (awake_any _).mono ?_
  rintro e w1 ⟨rfl, b1⟩
  have B1 : Kp (Below w.heap.size w w1) := ⟨⟨b1.os, b1.tape, b1.output, b1.size, b1.block⟩⟩
  clear b1
  go_wp2_with fail
  refine (New_no (-1) _ (by decide)).mono ?_
  rintro e w' ⟨rfl, rfl⟩
  go_wp2_with fail
  refine (Load_arg 10 _ 33 33 _ (by decide) (.inr (by decide))).mono ?_
  rintro e w' ⟨rfl, rfl⟩
  have B2 : Kp (Below w.heap.size w (w1.alloc (.cells z33 40 (0, 0)))) := ⟨B1.out.alloc B1.out.size _⟩
  generalize w1.alloc (.cells z33 40 (0, 0)) = w2 at B2 ⊢
  clear hmk33 B1
  have HL3 := Kp.mk (Load_go 10 _ 2 2 fN _ (by decide) (by decide) (by decide) (tapes_two w2 sABCDE ⟨#[]⟩ ⟨#[]⟩ sF2K (by decide) (by decide) (by decide) (by decide)))
  unfold sABCDE sF2K at HL3
  go_wp2_with fail
  refine HL3.out.mono ?_
  rintro e w3 ⟨hv, hb⟩
  rcases hv with ⟨h, _⟩ | ⟨_, _, rfl⟩ | ⟨_, h, _⟩
  · exact absurd h fN_big
  rotate_left 1
  · rw [fN_used] at h; exact absurd h (by decide)
  have B3 : Kp (Below w.heap.size w w3) := ⟨(B2.out.alloc B2.out.size _).trans (hb.mono (B2.out.alloc B2.out.size _).size)⟩
  clear hb HL3 B2
  have HL4 := Kp.mk (Load_go 11 _ 2 2 fN _ (by decide) (by decide) (by decide) (tapes_two w3 sABCDE ⟨#[]⟩ ⟨#[]⟩ sF2K (by decide) (by decide) (by decide) (by decide)))
  unfold sABCDE sF2K at HL4
  go_wp2_with fail
  refine HL4.out.mono ?_
  rintro e w4 ⟨hv, hb⟩
  rcases hv with ⟨h, _⟩ | ⟨_, h, _⟩ | ⟨_, _, rfl, hd⟩
  · exact absurd h fN_big
  · rw [fN_used] at h; exact absurd h (by decide)
  have B4 : Kp (Below w.heap.size w w4) := ⟨(B3.out.alloc B3.out.size _).trans (hb.mono (B3.out.alloc B3.out.size _).size)⟩
  have hG : w.heap.size ≤ (w3.alloc (.cells #[.string ⟨#[97, 98, 99, 100, 101]⟩, .string ⟨#[]⟩, .string ⟨#[]⟩, .string ⟨#[102, 103, 104, 105, 106, 107]⟩] 40)).heap.size := (B3.out.alloc B3.out.size _).size
  obtain ⟨p, hpe⟩ : ∃ p, w3.heap.size + 1 = p := ⟨_, rfl⟩
  have hpe2 : (w3.alloc (.cells #[.string ⟨#[97, 98, 99, 100, 101]⟩, .string ⟨#[]⟩, .string ⟨#[]⟩, .string ⟨#[102, 103, 104, 105, 106, 107]⟩] 40)).heap.size = p := by rw [← hpe]; simp
  have G := Kp.mk hG
  rw [hpe2] at G
  have D4 : Kp (DiskAt w4 p n0) := ⟨by rw [← hpe2]; exact hd⟩
  clear hb hd HL4 hG B3
  go_wp2_with fail
  have B5 : Kp (Below w.heap.size w (w4.alloc O)) := ⟨B4.out.alloc B4.out.size _⟩
  have D5 : Kp (DiskAt (w4.alloc O) p n0) := ⟨D4.out.alloc O⟩
  have hT5 := tapes_one (w4.alloc O) U ⟨#[120]⟩ (Nat.le_of_eq HU.out) (by decide)
  have hz5 : (w4.alloc O).heap.size = w4.heap.size + 1 := by simp
  rw [hz5] at hT5
  have HL6 := Kp.mk (Load_go 1073741824 _ 1 1 _ _ (by decide) (by decide) (by decide) hT5)
  refine HL6.out.mono ?_
  rintro e w6 ⟨hv, hb⟩
  rcases hv with ⟨_, rfl⟩ | ⟨h, _⟩ | ⟨h, _⟩
  rotate_left 1
  · exact absurd ⟨0, by decide, by show 1048576 < U.size + 1; rw [HU.out]; decide⟩ h
  · exact absurd ⟨0, by decide, by show 1048576 < U.size + 1; rw [HU.out]; decide⟩ h
  have B6 : Kp (Below w.heap.size w w6) := ⟨(B5.out.alloc B5.out.size _).trans (hb.mono (B5.out.alloc B5.out.size _).size)⟩
  have D6 : Kp (DiskAt w6 p n0) := ⟨(D5.out.alloc _).below hb⟩
  clear hb HL6 hT5 hz5 B4 D4 B5 D5 hmk hcv
  have HL7 := Kp.mk (Load_go 1073741824 _ 1 1 _ _ (by decide) (by decide) (by decide) (tapes_one w6 U ⟨#[]⟩ (Nat.le_of_eq HU.out) (by decide)))
  have hnb : ¬ big (fun _ => (U, (⟨#[]⟩ : ByteArray))) 1 := fun ⟨i, hi, h⟩ => by
    have h : 1048576 < U.size + 0 := h
    rw [HU.out] at h
    exact absurd h (by decide)
  have hus : used (loadT (fun _ => (U, (⟨#[]⟩ : ByteArray))) 1) 32 = 1048576 := by rw [used_one]; show U.size + 0 = _; rw [HU.out]
  have HOq := Kp.mk (load_ok (fun _ => (U, (⟨#[]⟩ : ByteArray))) 1073741824 1 hnb (by decide) (by decide) (by rw [hus]; decide))
  have hb0 : ((loadD (fun _ => (U, (⟨#[]⟩ : ByteArray))) 1073741824 1).tp 0).b = U ++ ⟨#[]⟩ := rfl
  have hb1 : ((loadD (fun _ => (U, (⟨#[]⟩ : ByteArray))) 1073741824 1).tp 1).b = ⟨#[]⟩ := rfl
  have hs0 : (U ++ (⟨#[]⟩ : ByteArray)).size = 1048576 := by rw [ByteArray.size_append, HU.out]; rfl
  have hus' : used (loadD (fun _ => (U, (⟨#[]⟩ : ByteArray))) 1073741824 1).tp 32 = 1048576 := hus
  have hW1 : writeV (loadD (fun _ => (U, (⟨#[]⟩ : ByteArray))) 1073741824 1) 0 ⟨#[120]⟩ = (40, loadD (fun _ => (U, (⟨#[]⟩ : ByteArray))) 1073741824 1) := write_big rfl 0 (by decide) _ (by rw [hb0, hs0]; decide)
  have hW2 : writeV (loadD (fun _ => (U, (⟨#[]⟩ : ByteArray))) 1073741824 1) 0 ⟨#[]⟩ = (0, setT (loadD (fun _ => (U, (⟨#[]⟩ : ByteArray))) 1073741824 1) 0 ⟨(U ++ ⟨#[]⟩) ++ ⟨#[]⟩, U.size⟩) := write_ok rfl rfl 0 (by decide) _ (by rw [hb0, hs0]; decide) (by rw [hus']; show ¬ ((1073741824 : Int) - ((1048576 : Nat) : Int) < ((0 : Nat) : Int)); decide)
  have hu2 := used_setT (loadD (fun _ => (U, (⟨#[]⟩ : ByteArray))) 1073741824 1) 0 ⟨(U ++ ⟨#[]⟩) ++ ⟨#[]⟩, U.size⟩ (by decide)
  have hs1 : ((U ++ (⟨#[]⟩ : ByteArray)) ++ (⟨#[]⟩ : ByteArray)).size = 1048576 := by rw [ByteArray.size_append, hs0]; rfl
  simp only [hb0, hs0, hs1, hus'] at hu2
  have HO2 := Kp.mk (HOq.out.write 0 ⟨#[]⟩)
  have HWr1 := Kp.mk (fun q wx hx => Write_any q _ 0 ⟨#[120]⟩ wx hx HOq.out (by decide))
  have HWr2 := Kp.mk (fun q wx hx => Write_any q _ 0 ⟨#[]⟩ wx hx HOq.out (by decide))
  rw [hW1] at HWr1
  rw [hW2] at HWr2 HO2
  have hW3 : writeV (setT (loadD (fun _ => (U, (⟨#[]⟩ : ByteArray))) 1073741824 1) 0 ⟨(U ++ ⟨#[]⟩) ++ ⟨#[]⟩, U.size⟩) 1 U = (0, setT (setT (loadD (fun _ => (U, (⟨#[]⟩ : ByteArray))) 1073741824 1) 0 ⟨(U ++ ⟨#[]⟩) ++ ⟨#[]⟩, U.size⟩) 1 ⟨(⟨#[]⟩ : ByteArray) ++ U, 0⟩) := write_ok rfl rfl 1 (by decide) _ (by rw [setT_other _ _ _ _ (by decide), hb1, HU.out]; decide) (by rw [show used (setT (loadD (fun _ => (U, (⟨#[]⟩ : ByteArray))) 1073741824 1) 0 ⟨(U ++ ⟨#[]⟩) ++ ⟨#[]⟩, U.size⟩).tp 32 = 1048576 from by omega, HU.out]; show ¬ ((1073741824 : Int) - ((1048576 : Nat) : Int) < ((1048576 : Nat) : Int)); decide)
  have HO3 := Kp.mk (HO2.out.write 1 U)
  have HWr3 := Kp.mk (fun q wx hx => Write_any q _ 1 U wx hx HO2.out (by rw [HU.out]; decide))
  rw [hW3] at HWr3 HO3
  have hu3 := used_setT (setT (loadD (fun _ => (U, (⟨#[]⟩ : ByteArray))) 1073741824 1) 0 ⟨(U ++ ⟨#[]⟩) ++ ⟨#[]⟩, U.size⟩) 1 ⟨(⟨#[]⟩ : ByteArray) ++ U, 0⟩ (by decide)
  have hs2 : ((⟨#[]⟩ : ByteArray) ++ U).size = 1048576 := by rw [ByteArray.size_append, HU.out]; rfl
  rw [setT_other _ _ _ _ (by decide), hb1] at hu3
  simp only [hs2] at hu3
  have HU3 : Kp (used (setT (setT (loadD (fun _ => (U, (⟨#[]⟩ : ByteArray))) 1073741824 1) 0 ⟨(U ++ ⟨#[]⟩) ++ ⟨#[]⟩, U.size⟩) 1 ⟨(⟨#[]⟩ : ByteArray) ++ U, 0⟩).tp 32 = 2097152) := ⟨by
    have : (⟨#[]⟩ : ByteArray).size = 0 := rfl
    omega⟩
  simp only [] at HWr1 HWr2 HWr3 HO2 HO3
  generalize hq3 : setT (setT (loadD (fun _ => (U, (⟨#[]⟩ : ByteArray))) 1073741824 1) 0 ⟨(U ++ ⟨#[]⟩) ++ ⟨#[]⟩, U.size⟩) 1 ⟨(⟨#[]⟩ : ByteArray) ++ U, 0⟩ = Q3 at HWr3 HO3 HU3
  generalize hq2 : setT (loadD (fun _ => (U, (⟨#[]⟩ : ByteArray))) 1073741824 1) 0 ⟨(U ++ ⟨#[]⟩) ++ ⟨#[]⟩, U.size⟩ = Q2 at HWr2 HWr3
  clear hq3 hq2 hu2 hu3 hs0 hs1 hs2 hb0 hb1 hus' hW1 hW2 hW3 HO2
  go_wp2_with fail
  refine HL7.out.mono ?_
  rintro e w7 ⟨hv, hb⟩
  rcases hv with ⟨h, _⟩ | ⟨_, h, _⟩ | ⟨_, _, rfl, hd⟩
  · exact absurd h hnb
  · rw [hus] at h; exact absurd h (by decide)
  have B7 : Kp (Below w.heap.size w w7) := ⟨(B6.out.alloc B6.out.size _).trans (hb.mono (B6.out.alloc B6.out.size _).size)⟩
  have D7 : Kp (DiskAt w7 p n0) := ⟨(D6.out.alloc _).below hb⟩
  have hpq : p < w6.heap.size := D6.out.lt
  have hGq : w.heap.size ≤ w6.heap.size := B6.out.size
  obtain ⟨q, hqe⟩ : ∃ q, w6.heap.size + 1 = q := ⟨_, rfl⟩
  have hqe2 : (w6.alloc (.cells #[.string U, .string ⟨#[]⟩] 40)).heap.size = q := by rw [← hqe]; simp
  rw [hqe2] at hd
  have Q7 := Kp.mk hd
  have GQ : Kp (w.heap.size ≤ q) := ⟨by omega⟩
  have PQ : Kp (p ≠ q) := ⟨by omega⟩
  clear hb hd HL7 B6 D6 hpq hGq hnb hus HOq hqe2
  generalize loadD (fun _ => (U, (⟨#[]⟩ : ByteArray))) 1073741824 1 = Q1 at HWr1 HWr2 Q7
  go_wp2_with fail
  refine (HWr1.out _ _ Q7.out).mono ?_
  rintro e w8 ⟨rfl, d8, c8⟩
  have Q8 := Kp.mk d8
  have D8 := Kp.mk (c8.other D7.out PQ.out)
  have B8 := Kp.mk (c8.below B7.out B7.out.size GQ.out)
  clear d8 c8 Q7 D7 B7
  go_wp2_with fail
  refine (HWr2.out _ _ Q8.out).mono ?_
  rintro e w9 ⟨rfl, d9, c9⟩
  have Q9 := Kp.mk d9
  have D9 := Kp.mk (c9.other D8.out PQ.out)
  have B9 := Kp.mk (c9.below B8.out B8.out.size GQ.out)
  clear d9 c9 Q8 D8 B8
  go_wp2_with fail
  refine (HWr3.out _ _ Q9.out).mono ?_
  rintro e w10 ⟨rfl, d10, c10⟩
  have Q10 := Kp.mk d10
  have D10 := Kp.mk (c10.other D9.out PQ.out)
  have B10 := Kp.mk (c10.below B9.out B9.out.size GQ.out)
  clear d10 c10 Q9 D9 B9
  go_wp2_with fail
  refine (Tapes_any q Q3 _ Q10.out HO3.out).mono ?_
  rintro e w11 ⟨to, tc, rfl, hr, hn⟩
  have Q11 := Kp.mk (Q10.out.below hn.below)
  have D11 := Kp.mk (D10.out.below hn.below)
  have B11 := Kp.mk (B10.out.trans (hn.below.mono B10.out.size))
  clear hr hn Q10 D10 B10
  have HUs := Kp.mk (Used_any q Q3 w11 Q11.out HO3.out.most)
  rw [HU3.out] at HUs
  go_wp2_with fail
  refine HUs.out.mono ?_
  rintro e w12 ⟨rfl, hb12⟩
  have D12 := Kp.mk (D11.out.below hb12)
  have B12 := Kp.mk (B11.out.trans (hb12.mono B11.out.size))
  clear hb12 HUs Q11 D11 B11 HWr1 HWr2 HWr3 HO3 HU3
  have HX := Kp.mk (fun wx hx => Write_any p n0 32 ⟨#[]⟩ wx hx ok_n0 (by decide))
  rw [show (writeV n0 32 ⟨#[]⟩) = (1, n0) from by rfl] at HX
  go_wp2_with fail
  refine (HX.out _ D12.out).mono ?_
  rintro e w13 ⟨rfl, d13, c13⟩
  have D13 : Kp (DiskAt w13 p n0) := ⟨d13⟩
  have B13 := Kp.mk (c13.below B12.out B12.out.size G.out)
  clear d13 c13 D12 B12 HX
  have HX := Kp.mk (fun wx hx => Write_any p n0 (-1) ⟨#[]⟩ wx hx ok_n0 (by decide))
  rw [show (writeV n0 (-1) ⟨#[]⟩) = (1, n0) from by rfl] at HX
  go_wp2_with fail
  refine (HX.out _ D13.out).mono ?_
  rintro e w14 ⟨rfl, d14, c14⟩
  have D14 : Kp (DiskAt w14 p n0) := ⟨d14⟩
  have B14 := Kp.mk (c14.below B13.out B13.out.size G.out)
  clear d14 c14 D13 B13 HX
  have HX := Kp.mk (fun wx hx => Sync_any p n0 32 wx hx ok_n0)
  rw [show (syncV n0 32) = (1, n0) from by rfl] at HX
  go_wp2_with fail
  refine (HX.out _ D14.out).mono ?_
  rintro e w15 ⟨rfl, d15, c15⟩
  have D15 : Kp (DiskAt w15 p n0) := ⟨d15⟩
  have B15 := Kp.mk (c15.below B14.out B14.out.size G.out)
  clear d15 c15 D14 B14 HX
  have HX := Kp.mk (fun wx hx => Wipe_any p n0 (-1) wx hx ok_n0)
  rw [show (wipeV n0 (-1)) = (1, n0) from by rfl] at HX
  go_wp2_with fail
  refine (HX.out _ D15.out).mono ?_
  rintro e w16 ⟨rfl, d16, c16⟩
  have D16 : Kp (DiskAt w16 p n0) := ⟨d16⟩
  have B16 := Kp.mk (c16.below B15.out B15.out.size G.out)
  clear d16 c16 D15 B15 HX
  have HX := Kp.mk (fun wx hx => Trim_any p n0 0 6 wx hx ok_n0)
  rw [show (trimV n0 0 6) = (1, n0) from by rfl] at HX
  go_wp2_with fail
  refine (HX.out _ D16.out).mono ?_
  rintro e w17 ⟨rfl, d17, c17⟩
  have D17 : Kp (DiskAt w17 p n0) := ⟨d17⟩
  have B17 := Kp.mk (c17.below B16.out B16.out.size G.out)
  clear d17 c17 D16 B16 HX
  have HX := Kp.mk (fun wx hx => Trim_any p n0 0 (-1) wx hx ok_n0)
  rw [show (trimV n0 0 (-1)) = (1, n0) from by rfl] at HX
  go_wp2_with fail
  refine (HX.out _ D17.out).mono ?_
  rintro e w18 ⟨rfl, d18, c18⟩
  have D18 : Kp (DiskAt w18 p n0) := ⟨d18⟩
  have B18 := Kp.mk (c18.below B17.out B17.out.size G.out)
  clear d18 c18 D17 B17 HX
  have HX := Kp.mk (fun wx hx => Trim_any p n0 1 6 wx hx ok_n0)
  rw [show (trimV n0 1 6) = (0, n1) from by rfl] at HX
  go_wp2_with fail
  refine (HX.out _ D18.out).mono ?_
  rintro e w19 ⟨rfl, d19, c19⟩
  have D19 : Kp (DiskAt w19 p n1) := ⟨d19⟩
  have B19 := Kp.mk (c19.below B18.out B18.out.size G.out)
  clear d19 c19 D18 B18 HX
  have HX := Kp.mk (fun wx hx => Write_any p n1 31 ⟨#[120]⟩ wx hx ok_n1 (by decide))
  rw [show (writeV n1 31 ⟨#[120]⟩) = (44, n1) from by rfl] at HX
  go_wp2_with fail
  refine (HX.out _ D19.out).mono ?_
  rintro e w20 ⟨rfl, d20, c20⟩
  have D20 : Kp (DiskAt w20 p n1) := ⟨d20⟩
  have B20 := Kp.mk (c20.below B19.out B19.out.size G.out)
  clear d20 c20 D19 B19 HX
  have HX := Kp.mk (fun wx hx => Fail_any p n1 (-1) wx hx)
  rw [show (failV n1 (-1)) = (1, n1) from by rfl] at HX
  go_wp2_with fail
  refine (HX.out _ D20.out).mono ?_
  rintro e w21 ⟨rfl, d21, c21⟩
  have D21 : Kp (DiskAt w21 p n1) := ⟨d21⟩
  have B21 := Kp.mk (c21.below B20.out B20.out.size G.out)
  clear d21 c21 D20 B20 HX
  have HX := Kp.mk (fun wx hx => Fail_any p n1 1 wx hx)
  rw [show (failV n1 1) = (0, n2) from by rfl] at HX
  go_wp2_with fail
  refine (HX.out _ D21.out).mono ?_
  rintro e w22 ⟨rfl, d22, c22⟩
  have D22 : Kp (DiskAt w22 p n2) := ⟨d22⟩
  have B22 := Kp.mk (c22.below B21.out B21.out.size G.out)
  clear d22 c22 D21 B21 HX
  have HX := Kp.mk (fun wx hx => Fail_any p n2 0 wx hx)
  rw [show (failV n2 0) = (0, n3) from by rfl] at HX
  go_wp2_with fail
  refine (HX.out _ D22.out).mono ?_
  rintro e w23 ⟨rfl, d23, c23⟩
  have D23 : Kp (DiskAt w23 p n3) := ⟨d23⟩
  have B23 := Kp.mk (c23.below B22.out B22.out.size G.out)
  clear d23 c23 D22 B22 HX
  have HX := Kp.mk (fun wx hx => Wipe_any p n3 0 wx hx ok_n3)
  rw [show (wipeV n3 0) = (45, n4) from by rfl] at HX
  go_wp2_with fail
  refine (HX.out _ D23.out).mono ?_
  rintro e w24 ⟨rfl, d24, c24⟩
  have D24 : Kp (DiskAt w24 p n4) := ⟨d24⟩
  have B24 := Kp.mk (c24.below B23.out B23.out.size G.out)
  clear d24 c24 D23 B23 HX
  have HX := Kp.mk (fun wx hx => Up_any p n4 wx hx)
  rw [show n4.down = true from by rfl] at HX
  go_wp2_with fail
  refine (HX.out _ D24.out).mono ?_
  rintro e w' ⟨rfl, rfl⟩
  clear HX
  have HX := Kp.mk (fun wx hx => Fail_any p n4 3 wx hx)
  rw [show (failV n4 3) = (45, n4) from by rfl] at HX
  go_wp2_with fail
  refine (HX.out _ D24.out).mono ?_
  rintro e w25 ⟨rfl, d25, c25⟩
  have D25 : Kp (DiskAt w25 p n4) := ⟨d25⟩
  have B25 := Kp.mk (c25.below B24.out B24.out.size G.out)
  clear d25 c25 D24 B24 HX
  have HX := Kp.mk (fun wx hx => Wipe_any p n4 99 wx hx ok_n4)
  rw [show (wipeV n4 99) = (45, n4) from by rfl] at HX
  go_wp2_with fail
  refine (HX.out _ D25.out).mono ?_
  rintro e w26 ⟨rfl, d26, c26⟩
  have D26 : Kp (DiskAt w26 p n4) := ⟨d26⟩
  have B26 := Kp.mk (c26.below B25.out B25.out.size G.out)
  clear d26 c26 D25 B25 HX
  have HX := Kp.mk (fun wx hx => Used_any p n4 wx hx ok_n4.most)
  rw [used_n4] at HX
  go_wp2_with fail
  refine (HX.out _ D26.out).mono ?_
  rintro e w27 ⟨rfl, hb⟩
  have D27 := Kp.mk (D26.out.below hb)
  have B27 := Kp.mk (B26.out.trans (hb.mono B26.out.size))
  clear hb D26 B26 HX
  go_wp2_with fail
  refine (Back_any p n4 none 0 0 (fun _ => 0) _ D27.out ok_n4 (by decide) (fun W hW j hj => absurd hj (Nat.not_lt_zero j))).mono ?_
  rintro e w28 ⟨rfl, d28, c28⟩
  have D28 : Kp (DiskAt w28 p n5) := ⟨d28⟩
  have B28 := Kp.mk (c28.below B27.out B27.out.size G.out)
  clear d28 c28 D27 B27
  have HX := Kp.mk (fun wx hx => Up_any p n5 wx hx)
  rw [show n5.down = false from by rfl] at HX
  go_wp2_with fail
  refine (HX.out _ D28.out).mono ?_
  rintro e w' ⟨rfl, rfl⟩
  clear HX
  have HX := Kp.mk (fun wx hx => Wipe_any p n5 0 wx hx ok_n5)
  rw [show (wipeV n5 0) = (0, n6) from by rfl] at HX
  go_wp2_with fail
  refine (HX.out _ D28.out).mono ?_
  rintro e w29 ⟨rfl, d29, c29⟩
  have D29 : Kp (DiskAt w29 p n6) := ⟨d29⟩
  have B29 := Kp.mk (c29.below B28.out B28.out.size G.out)
  clear d29 c29 D28 B28 HX
  have HX := Kp.mk (fun wx hx => Used_any p n6 wx hx ok_n6.most)
  rw [used_n6] at HX
  go_wp2_with fail
  refine (HX.out _ D29.out).mono ?_
  rintro e w30 ⟨rfl, hb⟩
  have D30 := Kp.mk (D29.out.below hb)
  have B30 := Kp.mk (B29.out.trans (hb.mono B29.out.size))
  clear hb D29 B29 HX
  have HX := Kp.mk (fun wx hx => Read_any p n6 32 wx hx)
  rw [show readV n6 32 = (⟨#[]⟩, 1) from by rfl] at HX
  go_wp2_with fail
  refine (HX.out _ D30.out).mono ?_
  rintro e w' ⟨rfl, rfl⟩
  clear HX
  go_wp2_with fail
  refine (Read_nil 0 _).mono ?_
  rintro e w31 ⟨rfl, hb⟩
  have B31 := Kp.mk (B30.out.trans (hb.mono B30.out.size))
  clear hb B30
  go_wp2_with fail
  refine (Write_nil 0 _ _).mono ?_
  rintro e w32 ⟨rfl, hb⟩
  have B32 := Kp.mk (B31.out.trans (hb.mono B31.out.size))
  clear hb B31
  go_wp2_with fail
  refine (Sync_nil 0 _).mono ?_
  rintro e w33 ⟨rfl, hb⟩
  have B33 := Kp.mk (B32.out.trans (hb.mono B32.out.size))
  clear hb B32
  go_wp2_with fail
  refine (Trim_nil 0 0 _).mono ?_
  rintro e w34 ⟨rfl, hb⟩
  have B34 := Kp.mk (B33.out.trans (hb.mono B33.out.size))
  clear hb B33
  go_wp2_with fail
  refine (Wipe_nil 0 _).mono ?_
  rintro e w35 ⟨rfl, hb⟩
  have B35 := Kp.mk (B34.out.trans (hb.mono B34.out.size))
  clear hb B34
  go_wp2_with fail
  refine (Fail_nil 0 _).mono ?_
  rintro e w36 ⟨rfl, hb⟩
  have B36 := Kp.mk (B35.out.trans (hb.mono B35.out.size))
  clear hb B35
  go_wp2_with fail
  refine (Back_nil _).mono ?_
  rintro e w37 ⟨rfl, hb⟩
  have B37 := Kp.mk (B36.out.trans (hb.mono B36.out.size))
  clear hb B36
  go_wp2_with fail
  refine (Up_nil _).mono ?_
  rintro e w38 ⟨rfl, hb⟩
  have B38 := Kp.mk (B37.out.trans (hb.mono B37.out.size))
  clear hb B37
  go_wp2_with fail
  refine (Used_nil _).mono ?_
  rintro e w39 ⟨rfl, hb⟩
  have B39 := Kp.mk (B38.out.trans (hb.mono B38.out.size))
  clear hb B38
  go_wp2_with fail
  refine (Capacity_nil _).mono ?_
  rintro e w40 ⟨rfl, hb⟩
  have B40 := Kp.mk (B39.out.trans (hb.mono B39.out.size))
  clear hb B39
  go_wp2_with fail
  refine (Tapes_nil _).mono ?_
  rintro e w41 ⟨rfl, hb⟩
  have B41 := Kp.mk (B40.out.trans (hb.mono B40.out.size))
  clear hb B40
  go_wp2_with fail
  refine (Copy_nil _).mono ?_
  rintro e w42 ⟨rfl, hb⟩
  have B42 := Kp.mk (B41.out.trans (hb.mono B41.out.size))
  clear hb B41
  go_wp2_with fail
  refine (Same_nil _).mono ?_
  rintro e w43 ⟨rfl, hb⟩
  have B43 := Kp.mk (B42.out.trans (hb.mono B42.out.size))
  clear hb B42
  go_wp2_with fail
  refine (Same_nil1 p _).mono ?_
  rintro e w44 ⟨rfl, hb⟩
  have B44 := Kp.mk (B43.out.trans (hb.mono B43.out.size))
  clear hb B43
  go_wp2_with fail
  refine (Same_nil2 p _).mono ?_
  rintro e w45 ⟨rfl, hb⟩
  have B45 := Kp.mk (B44.out.trans (hb.mono B44.out.size))
  clear hb B44
  go_wp2
  go_ret
  exact ⟨by trivial, B45.out⟩
end Go.Proofs.Ytinjagebogifpaa
