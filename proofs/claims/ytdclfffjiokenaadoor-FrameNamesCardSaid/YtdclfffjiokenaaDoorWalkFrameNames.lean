/- The walk of FrameNames. Printed by tools/namesgen.py. -/
import Derived.Test.YtdclfffjiokenaaDoorWalkFrameBack
import Derived.Test.YtdclfffjiokenaaDoorBig
namespace Go.Proofs.YtdclfffjiokenaaDoor
open Go.RowKit
set_option linter.unusedVariables false

def sHead : ByteArray := ⟨#[4, 0, 0, 0, 140, 73, 96, 216, 3, 104, 101, 97, 100]⟩
def tHead : ByteArray := ⟨#[104, 101, 97, 100]⟩
def xHead : ByteArray := ⟨#[120]⟩ ++ sHead
def yHead : ByteArray := sHead ++ ⟨#[120]⟩
theorem szX : xHead.size = 14 := by unfold xHead; rw [ByteArray.size_append]; rfl
theorem szY : yHead.size = 14 := by unfold yHead; rw [ByteArray.size_append]; rfl
theorem mkHead : makeV 3 tHead = (sHead, 0) := by kernel_rfl
theorem rdHead : Fr.readE xHead 1 = .returned (.tuple #[.agg #[.int .u8 3, .string tHead, .int .i64 1], .int .i64 14, .int .i64 0]) := by kernel_rfl
theorem one1 : oneV sHead 3 = (tHead, true) := by kernel_rfl
theorem one2 : oneV sHead 1 = (⟨#[]⟩, false) := by kernel_rfl
theorem one3 : oneV yHead 3 = (⟨#[]⟩, false) := by kernel_rfl
theorem one4 : oneV ⟨#[]⟩ 3 = (⟨#[]⟩, false) := by kernel_rfl
theorem scan1 : scanV sHead 13 = ([], 13) := by
  unfold scanV
  rw [if_neg (by decide)]
  exact scanL_end (by decide)
theorem scan2 : scanV sHead 14 = ([], 0) := by
  unfold scanV
  rw [if_pos (by decide)]
theorem rf1 : decide ((Fr.readV sHead (-1 : Int)).1 = 1) = true := by kernel_rfl
theorem rf2 : decide ((Fr.readV sHead (14 : Int)).1 = 1) = true := by kernel_rfl
theorem rf3 : decide ((Fr.readV sHead (13 : Int)).1 = 8) = true := by kernel_rfl
theorem rf4 : decide ((Fr.readV ⟨#[]⟩ (0 : Int)).1 = 8) = true := by kernel_rfl
theorem rf5 : decide ((Fr.readV ⟨#[1, 0, 4, 0, 0, 0, 0, 0, 1]⟩ (0 : Int)).1 = 40) = true := by kernel_rfl
theorem rf6 : decide ((Fr.readV ⟨#[0, 0, 4, 0, 0, 0, 0, 0, 1]⟩ (0 : Int)).1 = 8) = true := by kernel_rfl
theorem rf7 : decide ((Fr.readV ⟨#[255, 255, 255, 255, 0, 0, 0, 0, 1]⟩ (0 : Int)).1 = 40) = true := by kernel_rfl
theorem rf8 : decide ((Fr.readV ⟨#[4, 0, 0, 0, 140, 73, 96, 216, 3, 104, 101, 97]⟩ (0 : Int)).1 = 8) = true := by kernel_rfl
theorem rf9 : decide ((Fr.readV ⟨#[4, 0, 0, 0, 0, 73, 96, 216, 3, 104, 101, 97, 100]⟩ (0 : Int)).1 = 42) = true := by kernel_rfl
theorem rf10 : decide ((Fr.readV ⟨#[0, 0, 0, 0, 210, 143, 37, 73, 0]⟩ (0 : Int)).1 = 4) = true := by kernel_rfl
theorem rf11 : decide ((Fr.readV ⟨#[0, 0, 0, 0, 210, 143, 37, 73, 1]⟩ (0 : Int)).1 = 42) = true := by kernel_rfl
/-- What is called, in whatever memory that lies behind w. -/
def Bh (w W : World) : Prop := Kp (Below w.heap.size w W)
theorem Bh.drew {w W : World} (h : Bh w W) : Bh w W.drew := ⟨h.out.drew⟩
theorem Bh.alloc {w W : World} (h : Bh w W) (o : Obj) : Bh w (W.alloc o) := ⟨h.out.alloc h.out.size o⟩
theorem Bh.call {w : World} (ht : Tab w) {f : FuncId} {args : Array Value} {v : Ending} (h : ∀ W, Tab W → Calls Tryd.prog f args W fun e W' => e = v ∧ Below W.heap.size W W') : ∀ W, Bh w W → Calls Tryd.prog f args W fun e W' => e = v ∧ Bh w W' := fun W hW => by
  refine (h W (ht.below hW.out)).mono ?_
  rintro e W' ⟨he, hb⟩
  exact ⟨he, ⟨hW.out.trans (hb.mono hW.out.size)⟩⟩
theorem Bh.scan {w : World} (ht : Tab w) {f : FuncId} {args : Array Value} {x : Value} (h : ∀ W, Tab W → Calls Tryd.prog f args W fun e W' => ∃ v, e = .returned (.tuple #[v, x]) ∧ RK 3 W' v 0 [] ∧ (∀ k, blk v = some k → W.heap.size ≤ k) ∧ Below W.heap.size W W') : ∀ W, Bh w W → Calls Tryd.prog f args W fun e W' => (∃ ao cap, e = .returned (.tuple #[.slice ao 0 cap, x])) ∧ Bh w W' := fun W hW => by
  refine (h W (ht.below hW.out)).mono ?_
  rintro e W' ⟨v, he, hr, _, hb⟩
  obtain ⟨ao, cap, rfl, _, _⟩ := hr.len
  exact ⟨⟨ao, cap, he⟩, ⟨hW.out.trans (hb.mono hW.out.size)⟩⟩
theorem make_long (T : ByteArray) (h : T.size = 262144) : ∃ U, makeV 3 T = (U, 0) := by
  refine ⟨B (Fr.fr (UInt8.ofNat 3) T.data.toList), ?_⟩
  unfold makeV
  rw [if_neg (by omega), if_neg (by omega)]
theorem make_longer (T : ByteArray) (h : T.size = 262145) : makeV 3 T = (⟨#[]⟩, 40) ∧ makeV 0 T = (⟨#[]⟩, 1) := by
  unfold makeV
  rw [if_neg (by omega), if_pos (by omega), if_pos (by omega)]
  exact ⟨rfl, rfl⟩
set_option maxRecDepth 100000 in
set_option maxHeartbeats 4000000 in
theorem walkFrameNames (w : World) (ht : Tab w) :
    Calls Tryd.prog 10 #[] w fun e w' => e = .returned (.bool true) ∧ Below w.heap.size w w' := by
  obtain ⟨O, T, hT, hmk, hcv⟩ := big_lit 262144 262144 rfl (by decide)
  obtain ⟨SH, hSH⟩ : ∃ S, sHead = S := ⟨_, rfl⟩
  obtain ⟨TH, hTH⟩ : ∃ S, tHead = S := ⟨_, rfl⟩
  have hs : SH.size = 13 := by rw [← hSH]; decide
  have hth : (⟨#[104, 101, 97, 100]⟩ : ByteArray) = TH := by rw [← hTH]; rfl
  obtain ⟨XH, hXH⟩ : ∃ S, (⟨#[120]⟩ : ByteArray) ++ SH = S := ⟨_, rfl⟩
  obtain ⟨HX, hHX⟩ : ∃ S, SH ++ (⟨#[120]⟩ : ByteArray) = S := ⟨_, rfl⟩
  obtain ⟨S12, hS12⟩ : ∃ S, SH.extract 0 12 = S := ⟨_, rfl⟩
  obtain ⟨S4, hS4⟩ : ∃ S, SH.extract 0 4 = S := ⟨_, rfl⟩
  obtain ⟨S5, hS5⟩ : ∃ S, SH.extract 5 13 = S := ⟨_, rfl⟩
  obtain ⟨S40, hS40⟩ : ∃ S, S4 ++ (⟨#[0]⟩ : ByteArray) = S := ⟨_, rfl⟩
  obtain ⟨SB, hSB⟩ : ∃ S, S40 ++ S5 = S := ⟨_, rfl⟩
  obtain ⟨TA, hTA⟩ : ∃ S, T ++ (⟨#[97]⟩ : ByteArray) = S := ⟨_, rfl⟩
  have hta : TA.size = 262145 := by
    have h1 : (⟨#[97]⟩ : ByteArray).size = 1 := rfl
    rw [← hTA, ByteArray.size_append, hT, h1]
  have e12 : S12 = ⟨#[4, 0, 0, 0, 140, 73, 96, 216, 3, 104, 101, 97]⟩ := by rw [← hS12, ← hSH]; rfl
  have eB : SB = ⟨#[4, 0, 0, 0, 0, 73, 96, 216, 3, 104, 101, 97, 100]⟩ := by rw [← hSB, ← hS40, ← hS4, ← hS5, ← hSH]; rfl
  have z4 : S4.size = 4 := by rw [← hS4, ← hSH]; decide
  have z5 : S5.size = 8 := by rw [← hS5, ← hSH]; decide
  have z40 : S40.size = 5 := by
    have h1 : (⟨#[0]⟩ : ByteArray).size = 1 := rfl
    rw [← hS40, ByteArray.size_append, z4, h1]
  have HA := Kp.mk (Bh.call ht (f := 12) (args := #[]) awake_any)
  have hmkT := make_long T hT
  obtain ⟨U, hU⟩ := hmkT
  obtain ⟨hU2, hU3⟩ := make_longer TA hta
  have M1 := Kp.mk (Bh.call ht (fun W hW => Make_any 3 T W (by decide) (by omega) hW))
  have M2 := Kp.mk (Bh.call ht (fun W hW => Make_any 3 TA W (by decide) (by omega) hW))
  have M3 := Kp.mk (Bh.call ht (fun W hW => Make_any 0 TA W (by decide) (by omega) hW))
  unfold makeE at M1 M2 M3
  rw [hU] at M1
  rw [hU2] at M2
  rw [hU3] at M3
  have MD := Kp.mk (Bh.call ht (fun W hW => made_any 3 tHead W (by decide) (by decide) hW))
  rw [mkHead, hSH, hTH] at MD
  have RD := Kp.mk (Bh.call ht (fun W hW => Read_any xHead 1 W (by rw [szX]; decide) (by decide) (by decide) hW))
  rw [rdHead, hTH] at RD
  unfold xHead at RD
  rw [hSH, hXH] at RD
  have SM := Kp.mk (Bh.call ht (fun W _ => same_of 3 [104, 101, 97, 100] 1 3 [104, 101, 97, 100] 1 W (by decide) (by decide)))
  rw [show B [104, 101, 97, 100] = TH from by rw [← hth]; rfl] at SM
  have O1 := Kp.mk (Bh.call ht (fun W hW => One_any sHead 3 W (by decide) (by decide) hW))
  have O2 := Kp.mk (Bh.call ht (fun W hW => One_any sHead 1 W (by decide) (by decide) hW))
  have O3 := Kp.mk (Bh.call ht (fun W hW => One_any yHead 3 W (by rw [szY]; decide) (by decide) hW))
  have O4 := Kp.mk (Bh.call ht (fun W hW => One_any ⟨#[]⟩ 3 W (by decide) (by decide) hW))
  rw [one1, hSH, hTH] at O1
  rw [one2, hSH] at O2
  rw [one3] at O3
  unfold yHead at O3
  rw [hSH, hHX] at O3
  rw [one4] at O4
  have C1 := Kp.mk (fun W hW => Scan_any sHead 13 W (by decide) (by decide) (by decide) hW)
  have C2 := Kp.mk (fun W hW => Scan_any sHead 14 W (by decide) (by decide) (by decide) hW)
  rw [scan1, hSH] at C1
  rw [scan2, hSH] at C2
  have C1 := Kp.mk (Bh.scan ht C1.out)
  have C2 := Kp.mk (Bh.scan ht C2.out)
  have Z1 := Kp.mk (Bh.call ht (fun W _ => Size_any 0 W (by decide) (by decide) |>.mono fun e W' ⟨h, he⟩ => ⟨h, he ▸ Below.refl _ _⟩))
  have Z2 := Kp.mk (Bh.call ht (fun W _ => Size_any 262144 W (by decide) (by decide) |>.mono fun e W' ⟨h, he⟩ => ⟨h, he ▸ Below.refl _ _⟩))
  have Z3 := Kp.mk (Bh.call ht (fun W _ => Size_any 262145 W (by decide) (by decide) |>.mono fun e W' ⟨h, he⟩ => ⟨h, he ▸ Below.refl _ _⟩))
  have Z4 := Kp.mk (Bh.call ht (fun W _ => Size_any (-1) W (by decide) (by decide) |>.mono fun e W' ⟨h, he⟩ => ⟨h, he ▸ Below.refl _ _⟩))
  rw [show sizeV 0 = 9 from by decide] at Z1
  rw [show sizeV 262144 = 262153 from by decide] at Z2
  rw [show sizeV 262145 = 0 from by decide] at Z3
  rw [show sizeV (-1) = 0 from by decide] at Z4
  have R1 := Kp.mk (Bh.call ht (fun W hW => refused_any sHead (-1) 1 W (by decide) (by decide) (by decide) (by decide) hW))
  rw [rf1, hSH] at R1
  have R2 := Kp.mk (Bh.call ht (fun W hW => refused_any sHead (14) 1 W (by decide) (by decide) (by decide) (by decide) hW))
  rw [rf2, hSH] at R2
  have R3 := Kp.mk (Bh.call ht (fun W hW => refused_any sHead (13) 8 W (by decide) (by decide) (by decide) (by decide) hW))
  rw [rf3, hSH] at R3
  have R4 := Kp.mk (Bh.call ht (fun W hW => refused_any ⟨#[]⟩ (0) 8 W (by decide) (by decide) (by decide) (by decide) hW))
  rw [rf4] at R4
  have R5 := Kp.mk (Bh.call ht (fun W hW => refused_any ⟨#[1, 0, 4, 0, 0, 0, 0, 0, 1]⟩ (0) 40 W (by decide) (by decide) (by decide) (by decide) hW))
  rw [rf5] at R5
  have R6 := Kp.mk (Bh.call ht (fun W hW => refused_any ⟨#[0, 0, 4, 0, 0, 0, 0, 0, 1]⟩ (0) 8 W (by decide) (by decide) (by decide) (by decide) hW))
  rw [rf6] at R6
  have R7 := Kp.mk (Bh.call ht (fun W hW => refused_any ⟨#[255, 255, 255, 255, 0, 0, 0, 0, 1]⟩ (0) 40 W (by decide) (by decide) (by decide) (by decide) hW))
  rw [rf7] at R7
  have R8 := Kp.mk (Bh.call ht (fun W hW => refused_any ⟨#[4, 0, 0, 0, 140, 73, 96, 216, 3, 104, 101, 97]⟩ (0) 8 W (by decide) (by decide) (by decide) (by decide) hW))
  rw [rf8, ← e12] at R8
  have R9 := Kp.mk (Bh.call ht (fun W hW => refused_any ⟨#[4, 0, 0, 0, 0, 73, 96, 216, 3, 104, 101, 97, 100]⟩ (0) 42 W (by decide) (by decide) (by decide) (by decide) hW))
  rw [rf9, ← eB] at R9
  have R10 := Kp.mk (Bh.call ht (fun W hW => refused_any ⟨#[0, 0, 0, 0, 210, 143, 37, 73, 0]⟩ (0) 4 W (by decide) (by decide) (by decide) (by decide) hW))
  rw [rf10] at R10
  have R11 := Kp.mk (Bh.call ht (fun W hW => refused_any ⟨#[0, 0, 0, 0, 210, 143, 37, 73, 1]⟩ (0) 42 W (by decide) (by decide) (by decide) (by decide) hW))
  rw [rf11] at R11
  have hthl : (TH.toList == TH.toList) = true := by simp
  clear e12 eB hU hU2 hU3 hSH hTH
  go_enter Tryd.func10, Tryd.ntmps10
  go_wp2_with fail
  refine (HA.out _ ⟨Below.refl _ w⟩).mono ?_
  rintro e w1 ⟨rfl, b1⟩
  go_wp2_with fail
  refine (Z1.out _ b1).mono ?_
  rintro e w2 ⟨rfl, b2⟩
  go_wp2_with fail
  refine (Z2.out _ b2).mono ?_
  rintro e w3 ⟨rfl, b3⟩
  go_wp2_with fail
  refine (Z3.out _ b3).mono ?_
  rintro e w4 ⟨rfl, b4⟩
  go_wp2_with fail
  refine (Z4.out _ b4).mono ?_
  rintro e w5 ⟨rfl, b5⟩
  go_wp2_with fail
  refine (M1.out _ (b5.alloc _)).mono ?_
  rintro e w6 ⟨rfl, b6⟩
  go_wp2_with fail
  refine (M2.out _ b6).mono ?_
  rintro e w7 ⟨rfl, b7⟩
  go_wp2_with fail
  refine (M3.out _ b7).mono ?_
  rintro e w8 ⟨rfl, b8⟩
  go_wp2_with fail
  refine (MD.out _ b8).mono ?_
  rintro e w9 ⟨rfl, b9⟩
  go_wp2_with fail
  refine (RD.out _ b9).mono ?_
  rintro e w10 ⟨rfl, b10⟩
  go_wp2_with fail
  refine (SM.out _ (b10.alloc _)).mono ?_
  rintro e w11 ⟨rfl, b11⟩
  go_wp2_with fail
  have bd := Bh.drew b11
  refine wp_region_any (by kernel_rfl) ?_
  change wpAny _ _ _ _ _ _ _ (World.drew _)
  refine wpAny_take (i := 0) (oi := ?_) (v := ?_) ?_ (by kernel_rfl) (by kernel_rfl) (by kernel_rfl) ?_ (Or.inl ⟨?_, ?_⟩) ?_
  rotate_left 2
  · (simp only [List.getElem?_toArray, List.getElem?_cons_zero]; rfl)
  · exact fun _ _ _ h => h
  · rfl
  · (intro w; go_simp; try (with_reducible rfl))
  try simp only [Act.put, List.setIfInBounds_toArray, List.set_cons_zero, List.set_cons_succ]
  refine wpAny_ready (rs := [1]) (by kernel_rfl) (by simp) (AllReady.cons (o := ?_) ?_ (fun K hK => ?_) AllReady.nil)
  rotate_left 1
  · (simp only [List.getElem?_toArray, List.getElem?_cons_succ, List.getElem?_cons_zero]; rfl)
  go_simp
  refine (R1.out _ bd).mono ?_
  rintro e w12 ⟨rfl, b12⟩
  go_wp2_with fail
  try refine hK _ _ ?_
  try clear hK K
  try simp only [Act.put, List.setIfInBounds_toArray, List.set_cons_zero, List.set_cons_succ]
  refine wpAny_take (i := 2) (oi := ?_) (v := ?_) ?_ (by kernel_rfl) (by kernel_rfl) (by kernel_rfl) ?_ (Or.inl ⟨?_, ?_⟩) ?_
  rotate_left 2
  · (simp only [List.getElem?_toArray, List.getElem?_cons_succ, List.getElem?_cons_zero]; rfl)
  · exact fun _ _ _ h => h
  · rfl
  · (intro w; go_simp; try (with_reducible rfl))
  try simp only [Act.put, List.setIfInBounds_toArray, List.set_cons_zero, List.set_cons_succ]
  refine wpAny_take (i := 3) (oi := ?_) (v := ?_) ?_ (by kernel_rfl) (by kernel_rfl) (by kernel_rfl) ?_ (Or.inl ⟨?_, ?_⟩) ?_
  rotate_left 2
  · (simp only [List.getElem?_toArray, List.getElem?_cons_succ, List.getElem?_cons_zero]; rfl)
  · exact fun _ _ _ h => h
  · rfl
  · (intro w; go_simp; try (with_reducible rfl))
  try simp only [Act.put, List.setIfInBounds_toArray, List.set_cons_zero, List.set_cons_succ]
  refine wpAny_take (i := 4) (oi := ?_) (v := ?_) ?_ (by kernel_rfl) (by kernel_rfl) (by kernel_rfl) ?_ (Or.inl ⟨?_, ?_⟩) ?_
  rotate_left 2
  · (simp only [List.getElem?_toArray, List.getElem?_cons_succ, List.getElem?_cons_zero]; rfl)
  · exact fun _ _ _ h => h
  · rfl
  · (intro w; go_simp; try (with_reducible rfl))
  try simp only [Act.put, List.setIfInBounds_toArray, List.set_cons_zero, List.set_cons_succ]
  refine wpAny_ready (rs := [5]) (by kernel_rfl) (by simp) (AllReady.cons (o := ?_) ?_ (fun K hK => ?_) AllReady.nil)
  rotate_left 1
  · (simp only [List.getElem?_toArray, List.getElem?_cons_succ, List.getElem?_cons_zero]; rfl)
  go_simp
  refine (R2.out _ b12).mono ?_
  rintro e w13 ⟨rfl, b13⟩
  go_wp2_with fail
  try refine hK _ _ ?_
  try clear hK K
  try simp only [Act.put, List.setIfInBounds_toArray, List.set_cons_zero, List.set_cons_succ]
  refine wpAny_take (i := 6) (oi := ?_) (v := ?_) ?_ (by kernel_rfl) (by kernel_rfl) (by kernel_rfl) ?_ (Or.inl ⟨?_, ?_⟩) ?_
  rotate_left 2
  · (simp only [List.getElem?_toArray, List.getElem?_cons_succ, List.getElem?_cons_zero]; rfl)
  · exact fun _ _ _ h => h
  · rfl
  · (intro w; go_simp; try (with_reducible rfl))
  try simp only [Act.put, List.setIfInBounds_toArray, List.set_cons_zero, List.set_cons_succ]
  refine wpAny_take (i := 7) (oi := ?_) (v := ?_) ?_ (by kernel_rfl) (by kernel_rfl) (by kernel_rfl) ?_ (Or.inl ⟨?_, ?_⟩) ?_
  rotate_left 2
  · (simp only [List.getElem?_toArray, List.getElem?_cons_succ, List.getElem?_cons_zero]; rfl)
  · exact fun _ _ _ h => h
  · rfl
  · (intro w; go_simp; try (with_reducible rfl))
  try simp only [Act.put, List.setIfInBounds_toArray, List.set_cons_zero, List.set_cons_succ]
  refine wpAny_take (i := 8) (oi := ?_) (v := ?_) ?_ (by kernel_rfl) (by kernel_rfl) (by kernel_rfl) ?_ (Or.inl ⟨?_, ?_⟩) ?_
  rotate_left 2
  · (simp only [List.getElem?_toArray, List.getElem?_cons_succ, List.getElem?_cons_zero]; rfl)
  · exact fun _ _ _ h => h
  · rfl
  · (intro w; go_simp; try (with_reducible rfl))
  try simp only [Act.put, List.setIfInBounds_toArray, List.set_cons_zero, List.set_cons_succ]
  refine wpAny_take (i := 9) (oi := ?_) (v := ?_) ?_ (by kernel_rfl) (by kernel_rfl) (by kernel_rfl) ?_ (Or.inl ⟨?_, ?_⟩) ?_
  rotate_left 2
  · (simp only [List.getElem?_toArray, List.getElem?_cons_succ, List.getElem?_cons_zero]; rfl)
  · exact fun _ _ _ h => h
  · rfl
  · (intro w; go_simp; try (with_reducible rfl))
  try simp only [Act.put, List.setIfInBounds_toArray, List.set_cons_zero, List.set_cons_succ]
  refine wpAny_ready (rs := [10]) (by kernel_rfl) (by simp) (AllReady.cons (o := ?_) ?_ (fun K hK => ?_) AllReady.nil)
  rotate_left 1
  · (simp only [List.getElem?_toArray, List.getElem?_cons_succ, List.getElem?_cons_zero]; rfl)
  go_simp
  refine (R3.out _ b13).mono ?_
  rintro e w14 ⟨rfl, b14⟩
  go_wp2_with fail
  try refine hK _ _ ?_
  try clear hK K
  try simp only [Act.put, List.setIfInBounds_toArray, List.set_cons_zero, List.set_cons_succ]
  refine wpAny_take (i := 11) (oi := ?_) (v := ?_) ?_ (by kernel_rfl) (by kernel_rfl) (by kernel_rfl) ?_ (Or.inl ⟨?_, ?_⟩) ?_
  rotate_left 2
  · (simp only [List.getElem?_toArray, List.getElem?_cons_succ, List.getElem?_cons_zero]; rfl)
  · exact fun _ _ _ h => h
  · rfl
  · (intro w; go_simp; try (with_reducible rfl))
  try simp only [Act.put, List.setIfInBounds_toArray, List.set_cons_zero, List.set_cons_succ]
  refine wpAny_take (i := 12) (oi := ?_) (v := ?_) ?_ (by kernel_rfl) (by kernel_rfl) (by kernel_rfl) ?_ (Or.inl ⟨?_, ?_⟩) ?_
  rotate_left 2
  · (simp only [List.getElem?_toArray, List.getElem?_cons_succ, List.getElem?_cons_zero]; rfl)
  · exact fun _ _ _ h => h
  · rfl
  · (intro w; go_simp; try (with_reducible rfl))
  try simp only [Act.put, List.setIfInBounds_toArray, List.set_cons_zero, List.set_cons_succ]
  refine wpAny_take (i := 13) (oi := ?_) (v := ?_) ?_ (by kernel_rfl) (by kernel_rfl) (by kernel_rfl) ?_ (Or.inl ⟨?_, ?_⟩) ?_
  rotate_left 2
  · (simp only [List.getElem?_toArray, List.getElem?_cons_succ, List.getElem?_cons_zero]; rfl)
  · exact fun _ _ _ h => h
  · rfl
  · (intro w; go_simp; try (with_reducible rfl))
  try simp only [Act.put, List.setIfInBounds_toArray, List.set_cons_zero, List.set_cons_succ]
  refine wpAny_ready (rs := [14]) (by kernel_rfl) (by simp) (AllReady.cons (o := ?_) ?_ (fun K hK => ?_) AllReady.nil)
  rotate_left 1
  · (simp only [List.getElem?_toArray, List.getElem?_cons_succ, List.getElem?_cons_zero]; rfl)
  go_simp
  refine (R4.out _ b14).mono ?_
  rintro e w15 ⟨rfl, b15⟩
  go_wp2_with fail
  try refine hK _ _ ?_
  try clear hK K
  try simp only [Act.put, List.setIfInBounds_toArray, List.set_cons_zero, List.set_cons_succ]
  refine wpAny_take (i := 15) (oi := ?_) (v := ?_) ?_ (by kernel_rfl) (by kernel_rfl) (by kernel_rfl) ?_ (Or.inl ⟨?_, ?_⟩) ?_
  rotate_left 2
  · (simp only [List.getElem?_toArray, List.getElem?_cons_succ, List.getElem?_cons_zero]; rfl)
  · exact fun _ _ _ h => h
  · rfl
  · (intro w; go_simp; try (with_reducible rfl))
  try simp only [Act.put, List.setIfInBounds_toArray, List.set_cons_zero, List.set_cons_succ]
  refine wpAny_take (i := 16) (oi := ?_) (v := ?_) ?_ (by kernel_rfl) (by kernel_rfl) (by kernel_rfl) ?_ (Or.inl ⟨?_, ?_⟩) ?_
  rotate_left 2
  · (simp only [List.getElem?_toArray, List.getElem?_cons_succ, List.getElem?_cons_zero]; rfl)
  · exact fun _ _ _ h => h
  · rfl
  · (intro w; go_simp; try (with_reducible rfl))
  try simp only [Act.put, List.setIfInBounds_toArray, List.set_cons_zero, List.set_cons_succ]
  refine wpAny_take (i := 17) (oi := ?_) (v := ?_) ?_ (by kernel_rfl) (by kernel_rfl) (by kernel_rfl) ?_ (Or.inl ⟨?_, ?_⟩) ?_
  rotate_left 2
  · (simp only [List.getElem?_toArray, List.getElem?_cons_succ, List.getElem?_cons_zero]; rfl)
  · exact fun _ _ _ h => h
  · rfl
  · (intro w; go_simp; try (with_reducible rfl))
  try simp only [Act.put, List.setIfInBounds_toArray, List.set_cons_zero, List.set_cons_succ]
  refine wpAny_ready (rs := [18]) (by kernel_rfl) (by simp) (AllReady.cons (o := ?_) ?_ (fun K hK => ?_) AllReady.nil)
  rotate_left 1
  · (simp only [List.getElem?_toArray, List.getElem?_cons_succ, List.getElem?_cons_zero]; rfl)
  go_simp
  refine (R5.out _ b15).mono ?_
  rintro e w16 ⟨rfl, b16⟩
  go_wp2_with fail
  try refine hK _ _ ?_
  try clear hK K
  try simp only [Act.put, List.setIfInBounds_toArray, List.set_cons_zero, List.set_cons_succ]
  refine wpAny_take (i := 19) (oi := ?_) (v := ?_) ?_ (by kernel_rfl) (by kernel_rfl) (by kernel_rfl) ?_ (Or.inl ⟨?_, ?_⟩) ?_
  rotate_left 2
  · (simp only [List.getElem?_toArray, List.getElem?_cons_succ, List.getElem?_cons_zero]; rfl)
  · exact fun _ _ _ h => h
  · rfl
  · (intro w; go_simp; try (with_reducible rfl))
  try simp only [Act.put, List.setIfInBounds_toArray, List.set_cons_zero, List.set_cons_succ]
  refine wpAny_take (i := 20) (oi := ?_) (v := ?_) ?_ (by kernel_rfl) (by kernel_rfl) (by kernel_rfl) ?_ (Or.inl ⟨?_, ?_⟩) ?_
  rotate_left 2
  · (simp only [List.getElem?_toArray, List.getElem?_cons_succ, List.getElem?_cons_zero]; rfl)
  · exact fun _ _ _ h => h
  · rfl
  · (intro w; go_simp; try (with_reducible rfl))
  try simp only [Act.put, List.setIfInBounds_toArray, List.set_cons_zero, List.set_cons_succ]
  refine wpAny_take (i := 21) (oi := ?_) (v := ?_) ?_ (by kernel_rfl) (by kernel_rfl) (by kernel_rfl) ?_ (Or.inl ⟨?_, ?_⟩) ?_
  rotate_left 2
  · (simp only [List.getElem?_toArray, List.getElem?_cons_succ, List.getElem?_cons_zero]; rfl)
  · exact fun _ _ _ h => h
  · rfl
  · (intro w; go_simp; try (with_reducible rfl))
  try simp only [Act.put, List.setIfInBounds_toArray, List.set_cons_zero, List.set_cons_succ]
  refine wpAny_ready (rs := [22]) (by kernel_rfl) (by simp) (AllReady.cons (o := ?_) ?_ (fun K hK => ?_) AllReady.nil)
  rotate_left 1
  · (simp only [List.getElem?_toArray, List.getElem?_cons_succ, List.getElem?_cons_zero]; rfl)
  go_simp
  refine (R6.out _ b16).mono ?_
  rintro e w17 ⟨rfl, b17⟩
  go_wp2_with fail
  try refine hK _ _ ?_
  try clear hK K
  try simp only [Act.put, List.setIfInBounds_toArray, List.set_cons_zero, List.set_cons_succ]
  refine wpAny_take (i := 23) (oi := ?_) (v := ?_) ?_ (by kernel_rfl) (by kernel_rfl) (by kernel_rfl) ?_ (Or.inl ⟨?_, ?_⟩) ?_
  rotate_left 2
  · (simp only [List.getElem?_toArray, List.getElem?_cons_succ, List.getElem?_cons_zero]; rfl)
  · exact fun _ _ _ h => h
  · rfl
  · (intro w; go_simp; try (with_reducible rfl))
  try simp only [Act.put, List.setIfInBounds_toArray, List.set_cons_zero, List.set_cons_succ]
  refine wpAny_take (i := 24) (oi := ?_) (v := ?_) ?_ (by kernel_rfl) (by kernel_rfl) (by kernel_rfl) ?_ (Or.inl ⟨?_, ?_⟩) ?_
  rotate_left 2
  · (simp only [List.getElem?_toArray, List.getElem?_cons_succ, List.getElem?_cons_zero]; rfl)
  · exact fun _ _ _ h => h
  · rfl
  · (intro w; go_simp; try (with_reducible rfl))
  try simp only [Act.put, List.setIfInBounds_toArray, List.set_cons_zero, List.set_cons_succ]
  refine wpAny_take (i := 25) (oi := ?_) (v := ?_) ?_ (by kernel_rfl) (by kernel_rfl) (by kernel_rfl) ?_ (Or.inl ⟨?_, ?_⟩) ?_
  rotate_left 2
  · (simp only [List.getElem?_toArray, List.getElem?_cons_succ, List.getElem?_cons_zero]; rfl)
  · exact fun _ _ _ h => h
  · rfl
  · (intro w; go_simp; try (with_reducible rfl))
  try simp only [Act.put, List.setIfInBounds_toArray, List.set_cons_zero, List.set_cons_succ]
  refine wpAny_ready (rs := [26]) (by kernel_rfl) (by simp) (AllReady.cons (o := ?_) ?_ (fun K hK => ?_) AllReady.nil)
  rotate_left 1
  · (simp only [List.getElem?_toArray, List.getElem?_cons_succ, List.getElem?_cons_zero]; rfl)
  go_simp
  refine (R7.out _ b17).mono ?_
  rintro e w18 ⟨rfl, b18⟩
  go_wp2_with fail
  try refine hK _ _ ?_
  try clear hK K
  try simp only [Act.put, List.setIfInBounds_toArray, List.set_cons_zero, List.set_cons_succ]
  refine wpAny_take (i := 27) (oi := ?_) (v := ?_) ?_ (by kernel_rfl) (by kernel_rfl) (by kernel_rfl) ?_ (Or.inl ⟨?_, ?_⟩) ?_
  rotate_left 2
  · (simp only [List.getElem?_toArray, List.getElem?_cons_succ, List.getElem?_cons_zero]; rfl)
  · exact fun _ _ _ h => h
  · rfl
  · (intro w; go_simp; try (with_reducible rfl))
  try simp only [Act.put, List.setIfInBounds_toArray, List.set_cons_zero, List.set_cons_succ]
  refine wpAny_take (i := 28) (oi := ?_) (v := ?_) ?_ (by kernel_rfl) (by kernel_rfl) (by kernel_rfl) ?_ (Or.inl ⟨?_, ?_⟩) ?_
  rotate_left 2
  · (simp only [List.getElem?_toArray, List.getElem?_cons_succ, List.getElem?_cons_zero]; rfl)
  · exact fun _ _ _ h => h
  · rfl
  · (intro w; go_simp; try (with_reducible rfl))
  try simp only [Act.put, List.setIfInBounds_toArray, List.set_cons_zero, List.set_cons_succ]
  refine wpAny_take (i := 29) (oi := ?_) (v := ?_) ?_ (by kernel_rfl) (by kernel_rfl) (by kernel_rfl) ?_ (Or.inl ⟨?_, ?_⟩) ?_
  rotate_left 2
  · (simp only [List.getElem?_toArray, List.getElem?_cons_succ, List.getElem?_cons_zero]; rfl)
  · exact fun _ _ _ h => h
  · rfl
  · (intro w; go_simp; try (with_reducible rfl))
  try simp only [Act.put, List.setIfInBounds_toArray, List.set_cons_zero, List.set_cons_succ]
  refine wpAny_take (i := 30) (oi := ?_) (v := ?_) ?_ (by kernel_rfl) (by kernel_rfl) (by kernel_rfl) ?_ (Or.inl ⟨?_, ?_⟩) ?_
  rotate_left 2
  · (simp only [List.getElem?_toArray, List.getElem?_cons_succ, List.getElem?_cons_zero]; rfl)
  · exact fun _ _ _ h => h
  · rfl
  · (intro w; go_simp; try (with_reducible rfl))
  try simp only [Act.put, List.setIfInBounds_toArray, List.set_cons_zero, List.set_cons_succ]
  refine wpAny_take (i := 31) (oi := ?_) (v := ?_) ?_ (by kernel_rfl) (by kernel_rfl) (by kernel_rfl) ?_ (Or.inl ⟨?_, ?_⟩) ?_
  rotate_left 2
  · (simp only [List.getElem?_toArray, List.getElem?_cons_succ, List.getElem?_cons_zero]; rfl)
  · exact fun _ _ _ h => h
  · rfl
  · (intro w; go_simp; try (with_reducible rfl))
  try simp only [Act.put, List.setIfInBounds_toArray, List.set_cons_zero, List.set_cons_succ]
  refine wpAny_ready (rs := [32]) (by kernel_rfl) (by simp) (AllReady.cons (o := ?_) ?_ (fun K hK => ?_) AllReady.nil)
  rotate_left 1
  · (simp only [List.getElem?_toArray, List.getElem?_cons_succ, List.getElem?_cons_zero]; rfl)
  go_simp
  refine (R8.out _ b18).mono ?_
  rintro e w19 ⟨rfl, b19⟩
  go_wp2_with fail
  try refine hK _ _ ?_
  try clear hK K
  try simp only [Act.put, List.setIfInBounds_toArray, List.set_cons_zero, List.set_cons_succ]
  refine wpAny_take (i := 33) (oi := ?_) (v := ?_) ?_ (by kernel_rfl) (by kernel_rfl) (by kernel_rfl) ?_ (Or.inl ⟨?_, ?_⟩) ?_
  rotate_left 2
  · (simp only [List.getElem?_toArray, List.getElem?_cons_succ, List.getElem?_cons_zero]; rfl)
  · exact fun _ _ _ h => h
  · rfl
  · (intro w; go_simp; try (with_reducible rfl))
  try simp only [Act.put, List.setIfInBounds_toArray, List.set_cons_zero, List.set_cons_succ]
  refine wpAny_take (i := 34) (oi := ?_) (v := ?_) ?_ (by kernel_rfl) (by kernel_rfl) (by kernel_rfl) ?_ (Or.inl ⟨?_, ?_⟩) ?_
  rotate_left 2
  · (simp only [List.getElem?_toArray, List.getElem?_cons_succ, List.getElem?_cons_zero]; rfl)
  · exact fun _ _ _ h => h
  · rfl
  · (intro w; go_simp; try (with_reducible rfl))
  try simp only [Act.put, List.setIfInBounds_toArray, List.set_cons_zero, List.set_cons_succ]
  refine wpAny_take (i := 35) (oi := ?_) (v := ?_) ?_ (by kernel_rfl) (by kernel_rfl) (by kernel_rfl) ?_ (Or.inl ⟨?_, ?_⟩) ?_
  rotate_left 2
  · (simp only [List.getElem?_toArray, List.getElem?_cons_succ, List.getElem?_cons_zero]; rfl)
  · exact fun _ _ _ h => h
  · rfl
  · (intro w; go_simp; try (with_reducible rfl))
  try simp only [Act.put, List.setIfInBounds_toArray, List.set_cons_zero, List.set_cons_succ]
  refine wpAny_take (i := 36) (oi := ?_) (v := ?_) ?_ (by kernel_rfl) (by kernel_rfl) (by kernel_rfl) ?_ (Or.inl ⟨?_, ?_⟩) ?_
  rotate_left 2
  · (simp only [List.getElem?_toArray, List.getElem?_cons_succ, List.getElem?_cons_zero]; rfl)
  · exact fun _ _ _ h => h
  · rfl
  · (intro w; go_simp; try (with_reducible rfl))
  try simp only [Act.put, List.setIfInBounds_toArray, List.set_cons_zero, List.set_cons_succ]
  refine wpAny_take (i := 37) (oi := ?_) (v := ?_) ?_ (by kernel_rfl) (by kernel_rfl) (by kernel_rfl) ?_ (Or.inl ⟨?_, ?_⟩) ?_
  rotate_left 2
  · (simp only [List.getElem?_toArray, List.getElem?_cons_succ, List.getElem?_cons_zero]; rfl)
  · exact fun _ _ _ h => h
  · rfl
  · (intro w; go_simp; try (with_reducible rfl))
  try simp only [Act.put, List.setIfInBounds_toArray, List.set_cons_zero, List.set_cons_succ]
  refine wpAny_take (i := 38) (oi := ?_) (v := ?_) ?_ (by kernel_rfl) (by kernel_rfl) (by kernel_rfl) ?_ (Or.inl ⟨?_, ?_⟩) ?_
  rotate_left 2
  · (simp only [List.getElem?_toArray, List.getElem?_cons_succ, List.getElem?_cons_zero]; rfl)
  · exact fun _ _ _ h => h
  · rfl
  · (intro w; go_simp; try (with_reducible rfl))
  try simp only [Act.put, List.setIfInBounds_toArray, List.set_cons_zero, List.set_cons_succ]
  refine wpAny_take (i := 39) (oi := ?_) (v := ?_) ?_ (by kernel_rfl) (by kernel_rfl) (by kernel_rfl) ?_ (Or.inl ⟨?_, ?_⟩) ?_
  rotate_left 2
  · (simp only [List.getElem?_toArray, List.getElem?_cons_succ, List.getElem?_cons_zero]; rfl)
  · exact fun _ _ _ h => h
  · rfl
  · (intro w; go_simp; try (with_reducible rfl))
  try simp only [Act.put, List.setIfInBounds_toArray, List.set_cons_zero, List.set_cons_succ]
  refine wpAny_take (i := 40) (oi := ?_) (v := ?_) ?_ (by kernel_rfl) (by kernel_rfl) (by kernel_rfl) ?_ (Or.inl ⟨?_, ?_⟩) ?_
  rotate_left 2
  · (simp only [List.getElem?_toArray, List.getElem?_cons_succ, List.getElem?_cons_zero]; rfl)
  · exact fun _ _ _ h => h
  · rfl
  · (intro w; go_simp; try (with_reducible rfl))
  try simp only [Act.put, List.setIfInBounds_toArray, List.set_cons_zero, List.set_cons_succ]
  refine wpAny_take (i := 41) (oi := ?_) (v := ?_) ?_ (by kernel_rfl) (by kernel_rfl) (by kernel_rfl) ?_ (Or.inl ⟨?_, ?_⟩) ?_
  rotate_left 2
  · (simp only [List.getElem?_toArray, List.getElem?_cons_succ, List.getElem?_cons_zero]; rfl)
  · exact fun _ _ _ h => h
  · rfl
  · (intro w; go_simp; try (with_reducible rfl))
  try simp only [Act.put, List.setIfInBounds_toArray, List.set_cons_zero, List.set_cons_succ]
  refine wpAny_ready (rs := [42]) (by kernel_rfl) (by simp) (AllReady.cons (o := ?_) ?_ (fun K hK => ?_) AllReady.nil)
  rotate_left 1
  · (simp only [List.getElem?_toArray, List.getElem?_cons_succ, List.getElem?_cons_zero]; rfl)
  go_simp
  refine (R9.out _ b19).mono ?_
  rintro e w20 ⟨rfl, b20⟩
  go_wp2_with fail
  try refine hK _ _ ?_
  try clear hK K
  try simp only [Act.put, List.setIfInBounds_toArray, List.set_cons_zero, List.set_cons_succ]
  refine wpAny_take (i := 43) (oi := ?_) (v := ?_) ?_ (by kernel_rfl) (by kernel_rfl) (by kernel_rfl) ?_ (Or.inl ⟨?_, ?_⟩) ?_
  rotate_left 2
  · (simp only [List.getElem?_toArray, List.getElem?_cons_succ, List.getElem?_cons_zero]; rfl)
  · exact fun _ _ _ h => h
  · rfl
  · (intro w; go_simp; try (with_reducible rfl))
  try simp only [Act.put, List.setIfInBounds_toArray, List.set_cons_zero, List.set_cons_succ]
  refine wpAny_take (i := 44) (oi := ?_) (v := ?_) ?_ (by kernel_rfl) (by kernel_rfl) (by kernel_rfl) ?_ (Or.inl ⟨?_, ?_⟩) ?_
  rotate_left 2
  · (simp only [List.getElem?_toArray, List.getElem?_cons_succ, List.getElem?_cons_zero]; rfl)
  · exact fun _ _ _ h => h
  · rfl
  · (intro w; go_simp; try (with_reducible rfl))
  try simp only [Act.put, List.setIfInBounds_toArray, List.set_cons_zero, List.set_cons_succ]
  refine wpAny_take (i := 45) (oi := ?_) (v := undef) ?_ (by kernel_rfl) (by kernel_rfl) (by kernel_rfl) ?_ (Or.inr ⟨?_, rfl⟩) ?_
  rotate_left 1
  · (simp only [List.getElem?_toArray, List.getElem?_cons_succ, List.getElem?_cons_zero]; rfl)
  · exact fun _ _ _ h => h
  · rfl
  try simp only [Act.put, List.setIfInBounds_toArray, List.set_cons_zero, List.set_cons_succ]
  refine wpAny_take (i := 46) (oi := ?_) (v := undef) ?_ (by kernel_rfl) (by kernel_rfl) (by kernel_rfl) ?_ (Or.inr ⟨?_, rfl⟩) ?_
  rotate_left 1
  · (simp only [List.getElem?_toArray, List.getElem?_cons_succ, List.getElem?_cons_zero]; rfl)
  · exact fun _ _ _ h => h
  · rfl
  try simp only [Act.put, List.setIfInBounds_toArray, List.set_cons_zero, List.set_cons_succ]
  refine wpAny_take (i := 47) (oi := ?_) (v := undef) ?_ (by kernel_rfl) (by kernel_rfl) (by kernel_rfl) ?_ (Or.inr ⟨?_, rfl⟩) ?_
  rotate_left 1
  · (simp only [List.getElem?_toArray, List.getElem?_cons_succ, List.getElem?_cons_zero]; rfl)
  · exact fun _ _ _ h => h
  · rfl
  try simp only [Act.put, List.setIfInBounds_toArray, List.set_cons_zero, List.set_cons_succ]
  refine wpAny_take (i := 48) (oi := ?_) (v := ?_) ?_ (by kernel_rfl) (by kernel_rfl) (by kernel_rfl) ?_ (Or.inl ⟨?_, ?_⟩) ?_
  rotate_left 2
  · (simp only [List.getElem?_toArray, List.getElem?_cons_succ, List.getElem?_cons_zero]; rfl)
  · exact fun _ _ _ h => h
  · rfl
  · (intro w; go_simp; try (with_reducible rfl))
  try simp only [Act.put, List.setIfInBounds_toArray, List.set_cons_zero, List.set_cons_succ]
  refine wpAny_take (i := 49) (oi := ?_) (v := ?_) ?_ (by kernel_rfl) (by kernel_rfl) (by kernel_rfl) ?_ (Or.inl ⟨?_, ?_⟩) ?_
  rotate_left 2
  · (simp only [List.getElem?_toArray, List.getElem?_cons_succ, List.getElem?_cons_zero]; rfl)
  · exact fun _ _ _ h => h
  · rfl
  · (intro w; go_simp; try (with_reducible rfl))
  try simp only [Act.put, List.setIfInBounds_toArray, List.set_cons_zero, List.set_cons_succ]
  refine wpAny_done (by kernel_rfl) ?_ _
  go_wp2_with fail
  refine (R10.out _ b20).mono ?_
  rintro e w21 ⟨rfl, b21⟩
  go_wp2_with fail
  refine (R11.out _ b21).mono ?_
  rintro e w22 ⟨rfl, b22⟩
  go_wp2_with fail
  refine (O1.out _ b22).mono ?_
  rintro e w23 ⟨rfl, b23⟩
  go_wp2_with fail
  refine (O2.out _ b23).mono ?_
  rintro e w24 ⟨rfl, b24⟩
  go_wp2_with fail
  refine (O3.out _ b24).mono ?_
  rintro e w25 ⟨rfl, b25⟩
  go_wp2_with fail
  refine (O4.out _ b25).mono ?_
  rintro e w26 ⟨rfl, b26⟩
  go_wp2_with fail
  refine (C1.out _ b26).mono ?_
  rintro e w27 ⟨⟨ao1, cap1, rfl⟩, b27⟩
  go_wp2_with fail
  refine (C2.out _ b27).mono ?_
  rintro e w28 ⟨⟨ao2, cap2, rfl⟩, b28⟩
  go_wp2
  go_ret
  exact ⟨rfl, b28.out⟩
end Go.Proofs.YtdclfffjiokenaaDoor
