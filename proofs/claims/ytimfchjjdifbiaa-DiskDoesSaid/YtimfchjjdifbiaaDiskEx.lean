/- The chapter's example; has; awake; made. -/
import Derived.Test.YtimfchjjdifbiaaDiskDo
namespace Go.Proofs.Ytimfchjjdifbiaa
open Go.RowKit
set_option linter.unusedVariables false

def sABCD : ByteArray := ⟨#[97, 98, 99, 100]⟩
def sEFG : ByteArray := ⟨#[101, 102, 103]⟩
def ex0 : DiskV := ⟨fun _ => blank, 10, false, 0, false⟩
def ex1 : DiskV := (writeV ex0 2 sABCD).2
def ex2 : DiskV := (syncV ex1 2).2
def ex3 : DiskV := (writeV ex2 2 sEFG).2
theorem ok_ex0 : Ok ex0 := ⟨fun _ _ => Nat.le_refl _, fun _ _ => Nat.zero_le _, by decide, by decide, by decide, by decide, by decide, fun h => by cases h⟩
theorem ok_ex1 : Ok ex1 := ok_ex0.write _ _
theorem ok_ex2 : Ok ex2 := ok_ex1.sync _
theorem ok_ex3 : Ok ex3 := ok_ex2.write _ _
theorem ex1_0 : (writeV ex0 2 sABCD).1 = 0 := by rfl
theorem ex2_0 : (syncV ex1 2).1 = 0 := by rfl
theorem ex3_0 : (writeV ex2 2 sEFG).1 = 0 := by rfl
set_option maxRecDepth 20000 in
theorem example_any (w : World) : Calls Try.prog 20 #[] w fun e w' => e = .returned (.pointer (some ⟨w.heap.size, 0, none⟩)) ∧ DiskAt w' w.heap.size ex3 ∧ Below w.heap.size w w' := by
  have HW1 := Kp.mk (fun wx hx => Write_any w.heap.size ex0 2 sABCD wx hx ok_ex0 (by decide))
  have HW2 := Kp.mk (fun wx hx => Sync_any w.heap.size ex1 2 wx hx ok_ex1)
  have HW3 := Kp.mk (fun wx hx => Write_any w.heap.size ex2 2 sEFG wx hx ok_ex2 (by decide))
  rw [ex1_0] at HW1
  rw [ex2_0] at HW2
  rw [ex3_0] at HW3
  unfold sABCD at HW1
  unfold sEFG at HW3
  go_enter Try.func20, Try.ntmps20
  go_wp2_with fail
  refine (New_ok 10 _ (by decide) (by decide)).mono ?_
  rintro e w1 ⟨rfl, d1, b1⟩
  have D1 : Kp (DiskAt w1 w.heap.size ex0) := ⟨d1⟩
  have B1 : Kp (Below w.heap.size w w1) := ⟨⟨b1.os, b1.tape, b1.output, b1.size, b1.block⟩⟩
  clear d1 b1
  go_wp2_with fail
  refine (HW1.out _ D1.out).mono ?_
  rintro e w2 ⟨rfl, d2, c2⟩
  have D2 : Kp (DiskAt w2 w.heap.size ex1) := ⟨d2⟩
  have B2 := Kp.mk (c2.below B1.out B1.out.size (Nat.le_refl _))
  clear d2 c2
  go_wp2_with fail
  refine (HW2.out _ D2.out).mono ?_
  rintro e w3 ⟨rfl, d3, c3⟩
  have D3 : Kp (DiskAt w3 w.heap.size ex2) := ⟨d3⟩
  have B3 := Kp.mk (c3.below B2.out B2.out.size (Nat.le_refl _))
  clear d3 c3
  go_wp2_with fail
  refine (HW3.out _ D3.out).mono ?_
  rintro e w4 ⟨rfl, d4, c4⟩
  have D4 : Kp (DiskAt w4 w.heap.size ex3) := ⟨d4⟩
  have B4 := Kp.mk (c4.below B3.out B3.out.size (Nat.le_refl _))
  clear d4 c4
  go_wp2
  go_ret
  exact ⟨rfl, D4.out, B4.out⟩
/-- has: the bytes of a tape that can be read. -/
theorem has_yes (g : Nat) (D : DiskV) (t : Int) (s : ByteArray) (w : World) (h : DiskAt w g D) (hr : readV D t = (s, 0)) :
    Calls Try.prog 21 #[.pointer (some ⟨g, 0, none⟩), .int .i64 t, .string s] w fun e w' => e = .returned (.bool true) ∧ w = w' := by
  have HR := Kp.mk (Read_any g D t w h)
  rw [hr] at HR
  clear h hr
  go_enter Try.func21, Try.ntmps21
  go_wp2_with fail
  refine HR.out.mono ?_
  rintro e w1 ⟨rfl, rfl⟩
  go_wp2
  go_ret
  exact ⟨by trivial, rfl⟩
theorem keep_one (w : World) : ∀ W, (∀ k, k = w.heap.size → W.heap[k]? = some (.cells #[.int .i64 2] 3 (0, 0))) → KeepAt W (some ⟨w.heap.size, 0, none⟩) 1 (fun _ => 2) := fun W h j hj => by
  obtain rfl : j = 0 := by omega
  refine ⟨_, rfl, ?_⟩
  rw [Addr.add_lit, Nat.zero_add, cell_of_row _ _ _ _ _ _ (h _ rfl)]
  rfl
def exA : DiskV := backV ex3 1 (fun _ => 2)
def exB : DiskV := backV ex3 0 (fun _ => 0)
def exC : DiskV := (failV ex3 1).2
def exD : DiskV := (syncV exC 2).2
def exE : DiskV := (writeV exD 2 ⟨#[104]⟩).2
theorem ok_exB : Ok exB := ok_ex3.back _ _
theorem ok_exC : Ok exC := ok_ex3.failV 1 (by decide)
theorem ok_exD : Ok exD := ok_exC.sync _
theorem ok_exE : Ok exE := ok_exD.write _ _
set_option maxRecDepth 20000 in
set_option maxHeartbeats 2000000 in
theorem awake_any (w : World) : Calls Try.prog 5 #[] w fun e w' => e = .returned (.bool true) ∧ Below w.heap.size w w' := by
  have r1 : Kp (readV ex3 2 = (⟨#[97, 98, 99, 100, 101, 102, 103]⟩, 0)) := ⟨by rfl⟩
  have r2 : Kp (readV exA 2 = (⟨#[97, 98, 99, 100, 101, 102]⟩, 0)) := ⟨by rfl⟩
  have r3 : Kp (readV exB 2 = (⟨#[97, 98, 99, 100]⟩, 0)) := ⟨by rfl⟩
  have r4 : Kp ((writeV exB 0 ⟨#[49, 50, 51, 52, 53, 54, 55]⟩).1 = 44) := ⟨by rfl⟩
  have r5 : Kp ((failV ex3 1).1 = 0) := ⟨by rfl⟩
  have r6 : Kp ((syncV exC 2).1 = 0) := ⟨by rfl⟩
  have r7 : Kp ((writeV exD 2 ⟨#[104]⟩).1 = 45) := ⟨by rfl⟩
  have r8 : Kp (exE.down = true) := ⟨by rfl⟩
  have r9 : Kp (told (exE.tp 2) = (⟨#[97, 98, 99, 100, 101, 102, 103]⟩, ⟨#[104]⟩)) := ⟨by rfl⟩
  have HW4 := Kp.mk (fun g wx hx => Write_any g exB 0 ⟨#[49, 50, 51, 52, 53, 54, 55]⟩ wx hx ok_exB (by decide))
  rw [r4.out] at HW4
  have HF5 := Kp.mk (fun g wx hx => Fail_any g ex3 1 wx hx)
  rw [r5.out] at HF5
  have HS6 := Kp.mk (fun g wx hx => Sync_any g exC 2 wx hx ok_exC)
  rw [r6.out] at HS6
  have HW7 := Kp.mk (fun g wx hx => Write_any g exD 2 ⟨#[104]⟩ wx hx ok_exD (by decide))
  rw [r7.out] at HW7
  have HU8 := Kp.mk (fun g wx hx => Up_any g exE wx hx)
  rw [r8.out] at HU8
  clear r4 r5 r6 r7 r8
  go_enter Try.func5, Try.ntmps5
  go_wp2_with fail
  refine (example_any _).mono ?_
  rintro e w1 ⟨rfl, d1, b1⟩
  have D1 : Kp (DiskAt w1 w.heap.size ex3) := ⟨d1⟩
  have B1 : Kp (Below w.heap.size w w1) := ⟨⟨b1.os, b1.tape, b1.output, b1.size, b1.block⟩⟩
  clear d1 b1
  go_wp2_with fail
  refine (has_yes _ ex3 2 _ _ D1.out r1.out).mono ?_
  rintro e w' ⟨rfl, rfl⟩
  have HBk := Kp.mk (Back_any w.heap.size ex3 (some ⟨w1.heap.size, 0, none⟩) 1 1 (fun _ => 2) (w1.alloc (.cells #[.int .i64 2] 3)) (D1.out.alloc _) ok_ex3 (by decide)
    (fun W hW => keep_one w1 W (fun k hk => by subst hk; exact (hW.block _ (by simp) (fun e => by have := D1.out.lt; have := Option.some.inj e; omega)).trans (heap_alloc_new w1 _))))
  have B1' := Kp.mk (B1.out.alloc B1.out.size (.cells #[.int .i64 2] 3))
  go_wp2_with fail
  refine HBk.out.mono ?_
  rintro e w2 ⟨rfl, d2, c2⟩
  have D2 : Kp (DiskAt w2 w.heap.size exA) := ⟨d2⟩
  have B2 := Kp.mk (c2.below B1'.out B1'.out.size (Nat.le_refl _))
  clear d2 c2 HBk D1 B1 B1'
  go_wp2_with fail
  refine (has_yes _ exA 2 _ _ D2.out r2.out).mono ?_
  rintro e w' ⟨rfl, rfl⟩
  go_wp2_with fail
  refine (example_any _).mono ?_
  rintro e w3 ⟨rfl, d3, b3⟩
  have D3 : Kp (DiskAt w3 w2.heap.size ex3) := ⟨d3⟩
  have B3 := Kp.mk (B2.out.trans (b3.mono B2.out.size))
  have G3 := Kp.mk B2.out.size
  clear d3 b3 D2 B2
  have HBk := Kp.mk (Back_any w2.heap.size ex3 none 0 0 (fun _ => 0) w3 D3.out ok_ex3 (by decide) (fun W hW j hj => absurd hj (Nat.not_lt_zero j)))
  go_wp2_with fail
  refine HBk.out.mono ?_
  rintro e w4 ⟨rfl, d4, c4⟩
  have D4 : Kp (DiskAt w4 w2.heap.size exB) := ⟨d4⟩
  have B4 := Kp.mk (c4.below B3.out B3.out.size G3.out)
  clear d4 c4 HBk D3 B3
  go_wp2_with fail
  refine (has_yes _ exB 2 _ _ D4.out r3.out).mono ?_
  rintro e w' ⟨rfl, rfl⟩
  go_wp2_with fail
  refine (HW4.out _ _ D4.out).mono ?_
  rintro e w5 ⟨rfl, d5, c5⟩
  have B5 := Kp.mk (c5.below B4.out B4.out.size G3.out)
  clear d5 c5 D4 B4
  go_wp2_with fail
  refine (example_any _).mono ?_
  rintro e w6 ⟨rfl, d6, b6⟩
  have D6 : Kp (DiskAt w6 w5.heap.size ex3) := ⟨d6⟩
  have B6 := Kp.mk (B5.out.trans (b6.mono B5.out.size))
  have G6 := Kp.mk B5.out.size
  clear d6 b6 B5
  go_wp2_with fail
  refine (HF5.out _ _ D6.out).mono ?_
  rintro e w7 ⟨rfl, d7, c7⟩
  have D7 : Kp (DiskAt w7 w5.heap.size exC) := ⟨d7⟩
  have B7 := Kp.mk (c7.below B6.out B6.out.size G6.out)
  clear d7 c7 D6 B6
  go_wp2_with fail
  refine (HS6.out _ _ D7.out).mono ?_
  rintro e w8 ⟨rfl, d8, c8⟩
  have D8 : Kp (DiskAt w8 w5.heap.size exD) := ⟨d8⟩
  have B8 := Kp.mk (c8.below B7.out B7.out.size G6.out)
  clear d8 c8 D7 B7
  go_wp2_with fail
  refine (HW7.out _ _ D8.out).mono ?_
  rintro e w9 ⟨rfl, d9, c9⟩
  have D9 : Kp (DiskAt w9 w5.heap.size exE) := ⟨d9⟩
  have B9 := Kp.mk (c9.below B8.out B8.out.size G6.out)
  clear d9 c9 D8 B8
  go_wp2_with fail
  refine (HU8.out _ _ D9.out).mono ?_
  rintro e w' ⟨rfl, rfl⟩
  go_wp2_with fail
  refine (Tapes_any _ exE _ D9.out ok_exE).mono ?_
  rintro e wa ⟨ao, cap, rfl, hr, hn⟩
  have BA := Kp.mk (B9.out.trans (hn.below.mono B9.out.size))
  obtain ⟨gl, cl, hvl, hlc, hcm, _, _⟩ := hr.at_ (by decide)
  simp only [Value.slice.injEq, true_and] at hvl
  obtain ⟨rfl, rfl⟩ := hvl
  unfold maxLen at hcm
  obtain ⟨q1, q2⟩ := trow_get (tapesL exE 32) 2 (by rw [tapesL_len]; decide)
  have hg2 : (tapesL exE 32)[2]'(by rw [tapesL_len]; decide) = (⟨#[97, 98, 99, 100, 101, 102, 103]⟩, ⟨#[104]⟩) := by
    simp only [tapesL, List.getElem_map, List.getElem_range]
    exact r9.out
  rw [hg2] at q1 q2
  have x0 : wa.cell? ⟨gl, 4, none⟩ = some (.string ⟨#[97, 98, 99, 100, 101, 102, 103]⟩) := hr.cell 4 _ q1
  have x1 : wa.cell? ⟨gl, 5, none⟩ = some (.string ⟨#[104]⟩) := hr.cell 5 _ q2
  clear hr hn q1 q2 hg2 r9 r1 r2 r3 HW4 HF5 HS6 HW7 HU8 D9 B9
  go_wp2
  go_ret
  exact ⟨by trivial, BA.out⟩
/-! ### made -/
theorem op_cap (D : DiskV) (t may : Int) (dov torn : TapeV → TapeV) : (opV D t may dov torn).2.cap = D.cap := by
  unfold opV
  split
  · rfl
  · split
    · rfl
    · split
      · rfl
      · split <;> exact fails_cap D
theorem do_cap (D : DiskV) (a : ActV) : (doV D a).2.cap = D.cap := by
  unfold doV
  split
  · exact op_cap _ _ _ _ _
  · exact op_cap _ _ _ _ _
  · exact op_cap _ _ _ _ _
  · exact op_cap _ _ _ _ _
  · rfl
  · show (failV D a.n).2.cap = D.cap
    unfold failV
    split
    · rfl
    · split <;> rfl
  · rfl
/-- Load, of any tapes. -/
theorem Load_any (c : Int) (ao : Option Addr) (len cap : Nat) (f : Nat → ByteArray × ByteArray) (w : World) (hl : len ≤ maxLen) (hc : c ≤ 9223372036854775807) (hf : TapesIn w ao len f) :
    Calls Try.prog 6 #[.int .i64 c, .slice ao len cap] w fun e w' => ((∃ er, (er = 1 ∨ er = 40 ∨ er = 44) ∧ e = .returned (.tuple #[.pointer none, .int .i64 er])) ∨
      (0 ≤ c ∧ e = .returned (.tuple #[.pointer (some ⟨w.heap.size, 0, none⟩), .int .i64 0]) ∧ DiskAt w' w.heap.size (loadD f c len) ∧ Ok (loadD f c len))) ∧ Below w.heap.size w w' := by
  by_cases h : c < 0 ∨ 32 < len
  · refine (Load_arg c ao len cap w hl h).mono fun e w' ⟨he, hw⟩ => ?_
    subst hw
    exact ⟨.inl ⟨1, .inl rfl, he⟩, Below.refl _ _⟩
  · refine (Load_go c ao len cap f w (by omega) (by omega) hc hf).mono fun e w' ⟨hv, hb⟩ => ⟨?_, hb⟩
    rcases hv with ⟨_, he⟩ | ⟨_, _, he⟩ | ⟨hn, hr, he, hd⟩
    · exact .inl ⟨40, .inr (.inl rfl), he⟩
    · exact .inl ⟨44, .inr (.inr rfl), he⟩
    · exact .inr ⟨by omega, he, hd, load_ok f c len hn (by omega) hc hr⟩
end Go.Proofs.Ytimfchjjdifbiaa
