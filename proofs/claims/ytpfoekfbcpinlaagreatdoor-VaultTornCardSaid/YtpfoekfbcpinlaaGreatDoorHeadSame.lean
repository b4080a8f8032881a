/- The walk of Put. -/
import Derived.Test.YtpfoekfbcpinlaaGreatDoorHeadLoad
import Derived.Test.YtpfoekfbcpinlaaGreatDoorDiskNil
import Derived.Laws.EntriesVeiled
namespace Go.Proofs.YtpfoekfbcpinlaaGreatDoor
open Go.RowKit
set_option linter.unusedVariables false

theorem HLoad_any (g : Nat) (D : DiskV) (w : World) (h : DiskAt w g D) (ho : Ok D) (ht : Tab w) :
    Calls Tryz.prog 93 #[.pointer (some ⟨g, 0, none⟩)] w fun e w' => ∃ q : HdV, e = .returned (.tuple #[q.v, .int .i64 (if D.down = true then 0 else (Hd.diskV D).2.1 : Nat), .bool (if D.down = true then false else (Hd.diskV D).2.2), .int .i64 (if D.down = true then 45 else 0 : Nat)]) ∧ q.hv = (if D.down = true then Hd.HV.zero else (Hd.diskV D).1) ∧ HdOwn w.heap.size w' q ∧ Below w.heap.size w w' := by
  cases hd : D.down
  · simp only [Bool.false_eq_true, if_false]
    exact Load_up g D w h ho ht hd
  · simp only [if_true]
    exact (Load_down g D w h hd).mono fun e w' ⟨he, hb⟩ => ⟨HdV.zero, he, rfl, HdOwn.zero _ _, hb⟩
namespace Hd
/-- The tape that a head is put on. -/
def otherV (D : DiskV) : Nat := if (diskV D).2.2 = true then 1 - (diskV D).2.1 else 0
def bytesV (h : HV) : ByteArray := B (Fr.fr 3 h.enc)
def putV (D : DiskV) (h : HV) : Int × DiskV :=
  if h.may = false then (4, D) else if D.down = true then (45, D) else
  if (wipeV D (otherV D)).1 ≠ 0 then wipeV D (otherV D) else
  if (writeV (wipeV D (otherV D)).2 (otherV D) (bytesV h)).1 ≠ 0 then writeV (wipeV D (otherV D)).2 (otherV D) (bytesV h) else
  syncV (writeV (wipeV D (otherV D)).2 (otherV D) (bytesV h)).2 (otherV D)
theorem diskV_tape (D : DiskV) : (diskV D).2.1 ≤ 1 := by
  unfold diskV loadV
  split
  · exact Nat.zero_le _
  · split
    · exact Nat.zero_le _
    · exact Nat.le_refl _
end Hd
theorem Put1_any (g : Nat) (D : DiskV) (t : Int) (b c : Nat) (w : World) (h : DiskAt w g D) (ho : Ok D) (hb : w.cell? ⟨b, 0, none⟩ = some (.pointer (some ⟨g, 0, none⟩))) (hc : w.cell? ⟨c, 0, none⟩ = some (.int .i64 t)) :
    Calls Tryz.prog 114 #[.pointer (some ⟨b, 0, none⟩), .pointer (some ⟨c, 0, none⟩)] w fun e w' => e = .returned (.int .i64 (wipeV D t).1) ∧ DiskAt w' g (wipeV D t).2 ∧ Chg w w' g := by
  have HA := Kp.mk (Wipe_any g D t w h ho)
  clear h ho
  go_enter Tryz.func114, Tryz.ntmps114
  go_wp2_with fail
  refine HA.out.mono ?_
  rintro e w1 ⟨rfl, h1, c1⟩
  have H := Kp.mk (And.intro h1 c1)
  clear h1 c1
  go_wp2
  go_ret
  exact ⟨rfl, H.out.1, H.out.2⟩
theorem Put2_any (g : Nat) (D : DiskV) (t : Int) (s : ByteArray) (b c d : Nat) (w : World) (h : DiskAt w g D) (ho : Ok D) (hs : s.size ≤ maxLen) (hb : w.cell? ⟨b, 0, none⟩ = some (.pointer (some ⟨g, 0, none⟩))) (hc : w.cell? ⟨c, 0, none⟩ = some (.int .i64 t)) (hd : w.cell? ⟨d, 0, none⟩ = some (.string s)) :
    Calls Tryz.prog 115 #[.pointer (some ⟨b, 0, none⟩), .pointer (some ⟨c, 0, none⟩), .pointer (some ⟨d, 0, none⟩)] w fun e w' => e = .returned (.int .i64 (writeV D t s).1) ∧ DiskAt w' g (writeV D t s).2 ∧ Chg w w' g := by
  have HA := Kp.mk (Write_any g D t s w h ho hs)
  clear h ho
  go_enter Tryz.func115, Tryz.ntmps115
  go_wp2_with fail
  refine HA.out.mono ?_
  rintro e w1 ⟨rfl, h1, c1⟩
  have H := Kp.mk (And.intro h1 c1)
  clear h1 c1
  go_wp2
  go_ret
  exact ⟨rfl, H.out.1, H.out.2⟩
theorem Put3_any (g : Nat) (D : DiskV) (t : Int) (b c : Nat) (w : World) (h : DiskAt w g D) (ho : Ok D) (hb : w.cell? ⟨b, 0, none⟩ = some (.pointer (some ⟨g, 0, none⟩))) (hc : w.cell? ⟨c, 0, none⟩ = some (.int .i64 t)) :
    Calls Tryz.prog 116 #[.pointer (some ⟨b, 0, none⟩), .pointer (some ⟨c, 0, none⟩)] w fun e w' => e = .returned (.int .i64 (syncV D t).1) ∧ DiskAt w' g (syncV D t).2 ∧ Chg w w' g := by
  have HA := Kp.mk (Sync_any g D t w h ho)
  clear h ho
  go_enter Tryz.func116, Tryz.ntmps116
  go_wp2_with fail
  refine HA.out.mono ?_
  rintro e w1 ⟨rfl, h1, c1⟩
  have H := Kp.mk (And.intro h1 c1)
  clear h1 c1
  go_wp2
  go_ret
  exact ⟨rfl, H.out.1, H.out.2⟩
set_option maxRecDepth 20000 in
theorem Put_no (g : Nat) (D : DiskV) (q : HdV) (w : World) (h : HdAt w q) (hm : q.hv.may = false) :
    Calls Tryz.prog 96 #[.pointer (some ⟨g, 0, none⟩), q.v] w fun e w' => e = .returned (.int .i64 4) ∧ Below w.heap.size w w' := by
  have HE := Kp.mk (fun W (hW : Below w.heap.size w W) => Encode_no q W (h.below hW) hm)
  clear h hm
  obtain ⟨gen, base, snap, lo, ll, lc, lf⟩ := q
  unfold HdV.v at HE ⊢
  simp only [] at HE ⊢
  have HB1 := Kp.mk (((Below.refl w.heap.size w).alloc (Nat.le_refl _) (.cells #[.pointer (some ⟨g, 0, none⟩)] 29)).alloc (by simp) (.cells #[.int .i64 gen, .int .i64 base, .int .i64 snap, .slice lo ll lc] 38))
  have q1 : ∀ o o2, ((w.alloc o).alloc o2).cell? ⟨w.heap.size, 0, none⟩ = (w.alloc o).cell? ⟨w.heap.size, 0, none⟩ := fun o o2 => by rw [World.cell?_alloc_lt _ _ _ (by simp)]
  go_enter Tryz.func96, Tryz.ntmps96
  go_wp2_with fail
  refine (HE.out _ HB1.out).mono ?_
  rintro e w2 ⟨rfl, b2⟩
  have B2 := Kp.mk (HB1.out.trans (b2.mono HB1.out.size))
  clear b2
  go_wp2
  go_ret
  exact ⟨rfl, B2.out⟩
set_option maxRecDepth 20000 in
theorem Put_down (g : Nat) (D : DiskV) (q : HdV) (w : World) (h : DiskAt w g D) (hq : HdAt w q) (hm : q.hv.may = true) (hd : D.down = true) :
    Calls Tryz.prog 96 #[.pointer (some ⟨g, 0, none⟩), q.v] w fun e w' => e = .returned (.int .i64 45) ∧ Below w.heap.size w w' := by
  have HE := Kp.mk (fun W (hW : Below w.heap.size w W) => Encode_yes q W (hq.below hW) hm)
  have HL := Kp.mk (fun W (hW : Below w.heap.size w W) => Load_down g D W (h.below hW) hd)
  clear h hq hm
  generalize B q.hv.enc = s at HE
  obtain ⟨gen, base, snap, lo, ll, lc, lf⟩ := q
  unfold HdV.v at HE ⊢
  unfold HdV.zero HdV.v at HL
  simp only [] at HE ⊢
  have HB1 := Kp.mk (((Below.refl w.heap.size w).alloc (Nat.le_refl _) (.cells #[.pointer (some ⟨g, 0, none⟩)] 29)).alloc (by simp) (.cells #[.int .i64 gen, .int .i64 base, .int .i64 snap, .slice lo ll lc] 38))
  have hx := heap_first w (.cells #[.pointer (some ⟨g, 0, none⟩)] 29) (.cells #[.int .i64 gen, .int .i64 base, .int .i64 snap, .slice lo ll lc] 38)
  have HX := Kp.mk hx
  clear hx
  have q1 : ∀ o o2, ((w.alloc o).alloc o2).cell? ⟨w.heap.size, 0, none⟩ = (w.alloc o).cell? ⟨w.heap.size, 0, none⟩ := fun o o2 => by rw [World.cell?_alloc_lt _ _ _ (by simp)]
  go_enter Tryz.func96, Tryz.ntmps96
  go_wp2_with fail
  refine (HE.out _ HB1.out).mono ?_
  rintro e w2 ⟨rfl, b2⟩
  have B2 := Kp.mk (HB1.out.trans (b2.mono HB1.out.size))
  have x2 : w2.cell? ⟨w.heap.size, 0, none⟩ = some (.pointer (some ⟨g, 0, none⟩)) := cell_of_row _ _ _ _ _ _ ((b2.block _ (by simp; omega)).trans HX.out)
  clear b2
  go_wp2_with fail
  refine (HL.out _ B2.out).mono ?_
  rintro e w3 ⟨rfl, b3⟩
  have B3 := Kp.mk (B2.out.trans (b3.mono B2.out.size))
  have hb3 := B3.out.size
  clear b3
  go_wp2
  go_ret
  exact ⟨rfl, B3.out.alloc hb3 _⟩
structure PutS (w W : World) (g bd bt bb bf : Nat) (t : Int) (s : ByteArray) (F1 F2 F3 : Value) : Prop where
  xd : W.heap[bd]? = some (.cells #[.pointer (some ⟨g, 0, none⟩)] 29 (0, 0))
  xt : W.heap[bt]? = some (.cells #[.int .i64 t] 3 (0, 0))
  xs : W.heap[bb]? = some (.cells #[.string s] 9 (0, 0))
  xf : W.heap[bf]? = some (.cells #[F1, F2, F3] 139 (0, 0))
  chg : Chg w W g
  nd : g ≠ bd
  nt : g ≠ bt
  ns : g ≠ bb
  nf : g ≠ bf
theorem cells3' {W : World} {b : Nat} {c0 c1 c2 : Value} {T : TypeId} (h : W.heap[b]? = some (.cells #[c0, c1, c2] T (0, 0))) : W.cell? ⟨b, 0, none⟩ = some c0 ∧ W.cell? ⟨b, 1, none⟩ = some c1 ∧ W.cell? ⟨b, 2, none⟩ = some c2 := by
  refine ⟨?_, ?_, ?_⟩ <;> simp [World.cell?, h]
theorem PutS.next {w W W' : World} {g bd bt bb bf : Nat} {t : Int} {s : ByteArray} {F1 F2 F3 : Value} (h : PutS w W g bd bt bb bf t s F1 F2 F3) (c : Chg W W' g) : PutS w W' g bd bt bb bf t s F1 F2 F3 := by
  have hk : ∀ k o, W.heap[k]? = some o → g ≠ k → W'.heap[k]? = some o := fun k o hx hn => (c.block k (lt_of_block' hx) (fun e => hn (Option.some.inj e).symm)).trans hx
  exact ⟨hk _ _ h.xd h.nd, hk _ _ h.xt h.nt, hk _ _ h.xs h.ns, hk _ _ h.xf h.nf, h.chg.trans c, h.nd, h.nt, h.ns, h.nf⟩
def putE (D : DiskV) (t : Int) (s : ByteArray) : Int × DiskV :=
  if (wipeV D t).1 ≠ 0 then wipeV D t else
  if (writeV (wipeV D t).2 t s).1 ≠ 0 then writeV (wipeV D t).2 t s else
  syncV (writeV (wipeV D t).2 t s).2 t
set_option maxRecDepth 20000 in
set_option maxHeartbeats 4000000 in
theorem Put_go (g : Nat) (D : DiskV) (q : HdV) (w : World) (h : DiskAt w g D) (ho : Ok D) (ht : Tab w) (hq : HdAt w q) (hm : q.hv.may = true) (hd : D.down = false) :
    Calls Tryz.prog 96 #[.pointer (some ⟨g, 0, none⟩), q.v] w fun e w' => e = .returned (.int .i64 (putE D (Hd.otherV D) (Hd.bytesV q.hv)).1) ∧ DiskAt w' g (putE D (Hd.otherV D) (Hd.bytesV q.hv)).2 ∧ Chg w w' g := by
  have hel := enc_len hm
  have HE := Kp.mk (fun W (hW : Below w.heap.size w W) => Encode_yes q W (hq.below hW) hm)
  have HL := Kp.mk (fun W (hW : Below w.heap.size w W) => Load_up g D W (h.below hW) ho (ht.below hW) hd)
  have HMk : Kp (∀ W, Below w.heap.size w W → Calls Tryz.prog 45 #[.int .u8 3, .string (B q.hv.enc)] W fun e w' => e = .returned (.tuple #[.string (Hd.bytesV q.hv), .int .i64 0]) ∧ Below W.heap.size W w') := ⟨fun W hW => (Make_any 3 (B q.hv.enc) W (by decide) (by rw [B_size]; omega) (ht.below hW)).mono fun e w' hh => by
    unfold makeE makeV at hh
    rw [if_neg (by omega), if_neg (by rw [B_size]; omega), B_list] at hh
    exact hh⟩
  have hsz : (Hd.bytesV q.hv).size ≤ maxLen := by unfold Hd.bytesV maxLen; rw [B_size, Fr.fr_length]; omega
  have hOth : Hd.otherV D = if (Hd.diskV D).2.2 = true then 1 - (Hd.diskV D).2.1 else 0 := rfl
  have htp := Hd.diskV_tape D
  generalize Hd.otherV D = t at hOth ⊢
  generalize Hd.diskV D = V at HL hOth htp
  obtain ⟨V0, on, is⟩ := V
  simp only [] at HL hOth htp
  generalize Hd.bytesV q.hv = bs at HMk hsz ⊢
  generalize B q.hv.enc = s at HE HMk
  have HG : Kp (g < w.heap.size) := ⟨h.lt⟩
  have HDisk : Kp (∀ W, Below w.heap.size w W → DiskAt W g D) := ⟨fun W hW => h.below hW⟩
  have HOk := Kp.mk ho
  obtain ⟨E, hE⟩ : ∃ E, putE D t bs = E := ⟨_, rfl⟩
  have HPut := Kp.mk hE
  rw [hE]
  clear h ho ht hq hm hd hel hE
  obtain ⟨gen, base, snap, lo, ll, lc, lf⟩ := q
  unfold HdV.v at HE ⊢
  simp only [] at HE ⊢
  have HB1 := Kp.mk (((Below.refl w.heap.size w).alloc (Nat.le_refl _) (.cells #[.pointer (some ⟨g, 0, none⟩)] 29)).alloc (by simp) (.cells #[.int .i64 gen, .int .i64 base, .int .i64 snap, .slice lo ll lc] 38))
  have hx := heap_first w (.cells #[.pointer (some ⟨g, 0, none⟩)] 29) (.cells #[.int .i64 gen, .int .i64 base, .int .i64 snap, .slice lo ll lc] 38)
  have HX := Kp.mk hx
  clear hx
  have q1 : ∀ o o2, ((w.alloc o).alloc o2).cell? ⟨w.heap.size, 0, none⟩ = (w.alloc o).cell? ⟨w.heap.size, 0, none⟩ := fun o o2 => by rw [World.cell?_alloc_lt _ _ _ (by simp)]
  go_enter Tryz.func96, Tryz.ntmps96
  go_wp2_with fail
  refine (HE.out _ HB1.out).mono ?_
  rintro e w2 ⟨rfl, b2⟩
  have B2 := Kp.mk (HB1.out.trans (b2.mono HB1.out.size))
  have hx2 : w2.heap[w.heap.size]? = some (.cells #[.pointer (some ⟨g, 0, none⟩)] 29 (0, 0)) := (b2.block _ (by simp; omega)).trans HX.out
  have x2 : w2.cell? ⟨w.heap.size, 0, none⟩ = some (.pointer (some ⟨g, 0, none⟩)) := cell_of_row _ _ _ _ _ _ hx2
  have HX2 := Kp.mk hx2
  clear b2 hx2 q1
  go_wp2_with fail
  refine (HL.out _ B2.out).mono ?_
  rintro e w3 ⟨⟨g3, ba3, s3, lo3, ll3, lc3, lf3⟩, rfl, -, -, b3⟩
  unfold HdV.v
  simp only []
  have B3 := Kp.mk (B2.out.trans (b3.mono B2.out.size))
  have HX3 : Kp (w3.heap[w.heap.size]? = some (.cells #[.pointer (some ⟨g, 0, none⟩)] 29 (0, 0))) := ⟨(b3.block _ (lt_of_block' HX2.out)).trans HX2.out⟩
  clear b3 x2
  have hlt3 : w.heap.size < w3.heap.size := lt_of_block' HX3.out
  cases is
  · simp only [Bool.false_eq_true, if_false] at hOth
    subst hOth
    replace HPut : Kp (putE D 0 bs = E) := ⟨HPut.out⟩
    have HQ4 := Kp.mk (heap_second w3 (.cells #[.int .i64 g3, .int .i64 ba3, .int .i64 s3, .slice lo3 ll3 lc3] 38) (.cells #[.int .i64 0] 3))
    have HB4 : Kp (Below w3.heap.size w3 ((w3.alloc (.cells #[.int .i64 g3, .int .i64 ba3, .int .i64 s3, .slice lo3 ll3 lc3] 38)).alloc (.cells #[.int .i64 0] 3))) := ⟨((Below.refl _ _).alloc (Nat.le_refl _) _).alloc (by simp) _⟩
    have HX4 := Kp.mk ((HB4.out.block _ hlt3).trans HX3.out)
    go_wp2_with fail
    generalize (w3.alloc (.cells #[.int .i64 g3, .int .i64 ba3, .int .i64 s3, .slice lo3 ll3 lc3] 38)).alloc (.cells #[.int .i64 0] 3) = w4 at *
    refine (HMk.out _ (B3.out.trans (HB4.out.mono (by omega)))).mono ?_
    rintro e w5 ⟨rfl, b5⟩
    go_wp2
    have HS : Kp (PutS w ((w5.alloc (.cells #[.string bs] 9)).alloc (.cells #[.func (.func 114) #[] #[.pointer (some ⟨w.heap.size, 0, none⟩), .pointer (some ⟨w3.heap.size + 1, 0, none⟩)], .func (.func 115) #[] #[.pointer (some ⟨w.heap.size, 0, none⟩), .pointer (some ⟨w3.heap.size + 1, 0, none⟩), .pointer (some ⟨w5.heap.size, 0, none⟩)], .func (.func 116) #[] #[.pointer (some ⟨w.heap.size, 0, none⟩), .pointer (some ⟨w3.heap.size + 1, 0, none⟩)]] 139)) g w.heap.size (w3.heap.size + 1) w5.heap.size (w5.heap.size + 1) 0 bs (.func (.func 114) #[] #[.pointer (some ⟨w.heap.size, 0, none⟩), .pointer (some ⟨w3.heap.size + 1, 0, none⟩)]) (.func (.func 115) #[] #[.pointer (some ⟨w.heap.size, 0, none⟩), .pointer (some ⟨w3.heap.size + 1, 0, none⟩), .pointer (some ⟨w5.heap.size, 0, none⟩)]) (.func (.func 116) #[] #[.pointer (some ⟨w.heap.size, 0, none⟩), .pointer (some ⟨w3.heap.size + 1, 0, none⟩)])) := ⟨by
      have hb : ∀ o1 o2, Below w5.heap.size w5 ((w5.alloc o1).alloc o2) := fun o1 o2 => ((Below.refl _ _).alloc (Nat.le_refl _) _).alloc (by simp) _
      have hg := HG.out
      have h4 := lt_of_block' HX4.out
      have h5 := lt_of_block' HQ4.out
      have h6 := b5.size
      refine ⟨((hb _ _).block _ (by omega)).trans ((b5.block _ h4).trans HX4.out), ((hb _ _).block _ (by omega)).trans ((b5.block _ h5).trans HQ4.out), heap_first w5 _ _, heap_second w5 _ _, Chg.of_below (((B3.out.trans (HB4.out.mono (by omega))).trans (b5.mono (by omega))).trans ((hb _ _).mono (by omega))) g, by omega, by omega, by omega, by omega⟩⟩
    have HB6 : Kp (Below w.heap.size w ((w5.alloc (.cells #[.string bs] 9)).alloc (.cells #[.func (.func 114) #[] #[.pointer (some ⟨w.heap.size, 0, none⟩), .pointer (some ⟨w3.heap.size + 1, 0, none⟩)], .func (.func 115) #[] #[.pointer (some ⟨w.heap.size, 0, none⟩), .pointer (some ⟨w3.heap.size + 1, 0, none⟩), .pointer (some ⟨w5.heap.size, 0, none⟩)], .func (.func 116) #[] #[.pointer (some ⟨w.heap.size, 0, none⟩), .pointer (some ⟨w3.heap.size + 1, 0, none⟩)]] 139))) := ⟨by
      have hb : ∀ o1 o2, Below w5.heap.size w5 ((w5.alloc o1).alloc o2) := fun o1 o2 => ((Below.refl _ _).alloc (Nat.le_refl _) _).alloc (by simp) _
      have h4 := lt_of_block' HX4.out
      have h6 := b5.size
      exact ((B3.out.trans (HB4.out.mono (by omega))).trans (b5.mono (by omega))).trans ((hb _ _).mono (by omega))⟩
    clear HQ4 HX4 HB4 b5
    generalize (w5.alloc (.cells #[.string bs] 9)).alloc (.cells #[.func (.func 114) #[] #[.pointer (some ⟨w.heap.size, 0, none⟩), .pointer (some ⟨w3.heap.size + 1, 0, none⟩)], .func (.func 115) #[] #[.pointer (some ⟨w.heap.size, 0, none⟩), .pointer (some ⟨w3.heap.size + 1, 0, none⟩), .pointer (some ⟨w5.heap.size, 0, none⟩)], .func (.func 116) #[] #[.pointer (some ⟨w.heap.size, 0, none⟩), .pointer (some ⟨w3.heap.size + 1, 0, none⟩)]] 139) = w6 at *
    generalize w.heap.size = bd at HS ⊢
    generalize w3.heap.size + 1 = bt at HS ⊢
    generalize w5.heap.size + 1 = bf at HS ⊢
    generalize w5.heap.size = bb at HS ⊢
    have HD6 := Kp.mk (HDisk.out _ HB6.out)
    unfold putE at HPut
    refine wp_loop_rounds 4 ?_
    rw [rounds_succ]
    obtain ⟨c0, c1, c2⟩ := cells3' HS.out.xf
    have HN : Kp (∀ o, PutS w (w6.alloc o) g bd bt bb bf 0 bs _ _ _) := ⟨fun o => HS.out.next (Chg.alloc _ _ _)⟩
    have HDn : Kp (∀ o, DiskAt (w6.alloc o) g (D)) := ⟨fun o => HD6.out.alloc o⟩
    go_wp2_with fail
    refine (Put1_any g (D) 0 _ _ _ (HDn.out _) HOk.out (cell_of_row _ _ _ _ _ _ (HN.out _).xd) (cell_of_row _ _ _ _ _ _ (HN.out _).xt)).mono ?_
    rintro e w7 ⟨rfl, d7, c7⟩
    replace HD6 := Kp.mk d7
    replace HS := Kp.mk ((HN.out _).next c7)
    clear d7 c7 HN HDn c0 c1 c2
    by_cases e1 : (wipeV D 0).1 ≠ 0
    · rw [if_pos e1] at HPut
      have t1 : ((wipeV D 0).1 != 0) = true := by rw [bne_iff_ne]; exact e1
      have HP := HPut
      clear HPut e1
      generalize wipeV D 0 = P1 at *
      go_wp2
      go_ret
      exact ⟨by rw [← HP.out] <;> rfl, by rw [← HP.out]; exact HD6.out, HS.out.chg⟩
    rw [if_neg e1] at HPut
    have e1' : (wipeV D 0).1 = 0 := Classical.not_not.1 e1
    rw [e1']
    clear e1 e1'
    go_wp2
    rw [rounds_succ]
    obtain ⟨c0, c1, c2⟩ := cells3' HS.out.xf
    have HN : Kp (∀ o, PutS w (w7.alloc o) g bd bt bb bf 0 bs _ _ _) := ⟨fun o => HS.out.next (Chg.alloc _ _ _)⟩
    have HDn : Kp (∀ o, DiskAt (w7.alloc o) g ((wipeV D 0).2)) := ⟨fun o => HD6.out.alloc o⟩
    go_wp2_with fail
    refine (Put2_any g (wipeV D 0).2 0 bs _ _ _ _ (HDn.out _) (HOk.out.wipe 0) hsz (cell_of_row _ _ _ _ _ _ (HN.out _).xd) (cell_of_row _ _ _ _ _ _ (HN.out _).xt) (cell_of_row _ _ _ _ _ _ (HN.out _).xs)).mono ?_
    rintro e w8 ⟨rfl, d7, c7⟩
    replace HD6 := Kp.mk d7
    replace HS := Kp.mk ((HN.out _).next c7)
    clear d7 c7 HN HDn c0 c1 c2
    by_cases e1 : (writeV (wipeV D 0).2 0 bs).1 ≠ 0
    · rw [if_pos e1] at HPut
      have t1 : ((writeV (wipeV D 0).2 0 bs).1 != 0) = true := by rw [bne_iff_ne]; exact e1
      have HP := HPut
      clear HPut e1
      generalize writeV (wipeV D 0).2 0 bs = P1 at *
      go_wp2
      go_ret
      exact ⟨by rw [← HP.out] <;> rfl, by rw [← HP.out]; exact HD6.out, HS.out.chg⟩
    rw [if_neg e1] at HPut
    have e1' : (writeV (wipeV D 0).2 0 bs).1 = 0 := Classical.not_not.1 e1
    rw [e1']
    clear e1 e1'
    go_wp2
    rw [rounds_succ]
    obtain ⟨c0, c1, c2⟩ := cells3' HS.out.xf
    have HN : Kp (∀ o, PutS w (w8.alloc o) g bd bt bb bf 0 bs _ _ _) := ⟨fun o => HS.out.next (Chg.alloc _ _ _)⟩
    have HDn : Kp (∀ o, DiskAt (w8.alloc o) g ((writeV (wipeV D 0).2 0 bs).2)) := ⟨fun o => HD6.out.alloc o⟩
    go_wp2_with fail
    refine (Put3_any g (writeV (wipeV D 0).2 0 bs).2 0 _ _ _ (HDn.out _) ((HOk.out.wipe 0).write 0 bs) (cell_of_row _ _ _ _ _ _ (HN.out _).xd) (cell_of_row _ _ _ _ _ _ (HN.out _).xt)).mono ?_
    rintro e w9 ⟨rfl, d7, c7⟩
    replace HD6 := Kp.mk d7
    replace HS := Kp.mk ((HN.out _).next c7)
    clear d7 c7 HN HDn c0 c1 c2
    rw [HPut.out] at HD6 ⊢
    clear HPut
    by_cases e1 : E.1 ≠ 0
    · have t1 : (E.1 != 0) = true := by rw [bne_iff_ne]; exact e1
      clear e1
      go_wp2
      go_ret
      exact ⟨by trivial, HD6.out, HS.out.chg⟩
    have e1' : E.1 = 0 := Classical.not_not.1 e1
    have HE1 := Kp.mk e1'
    rw [e1']
    clear e1 e1'
    go_wp2
    rw [rounds_succ]
    go_wp2
    go_ret
    exact ⟨by rw [HE1.out] <;> rfl, HD6.out, HS.out.chg⟩
  · simp only [if_true] at hOth
    by_cases h0 : on = 0
    · subst h0
      subst hOth
      replace HPut : Kp (putE D 1 bs = E) := ⟨HPut.out⟩
      have HQ4 := Kp.mk (heap_second w3 (.cells #[.int .i64 g3, .int .i64 ba3, .int .i64 s3, .slice lo3 ll3 lc3] 38) (.cells #[.int .i64 1] 3))
      have HB4 : Kp (Below w3.heap.size w3 ((w3.alloc (.cells #[.int .i64 g3, .int .i64 ba3, .int .i64 s3, .slice lo3 ll3 lc3] 38)).alloc (.cells #[.int .i64 1] 3))) := ⟨((Below.refl _ _).alloc (Nat.le_refl _) _).alloc (by simp) _⟩
      have HX4 := Kp.mk ((HB4.out.block _ hlt3).trans HX3.out)
      go_wp2_with fail
      generalize (w3.alloc (.cells #[.int .i64 g3, .int .i64 ba3, .int .i64 s3, .slice lo3 ll3 lc3] 38)).alloc (.cells #[.int .i64 1] 3) = w4 at *
      refine (HMk.out _ (B3.out.trans (HB4.out.mono (by omega)))).mono ?_
      rintro e w5 ⟨rfl, b5⟩
      go_wp2
      have HS : Kp (PutS w ((w5.alloc (.cells #[.string bs] 9)).alloc (.cells #[.func (.func 114) #[] #[.pointer (some ⟨w.heap.size, 0, none⟩), .pointer (some ⟨w3.heap.size + 1, 0, none⟩)], .func (.func 115) #[] #[.pointer (some ⟨w.heap.size, 0, none⟩), .pointer (some ⟨w3.heap.size + 1, 0, none⟩), .pointer (some ⟨w5.heap.size, 0, none⟩)], .func (.func 116) #[] #[.pointer (some ⟨w.heap.size, 0, none⟩), .pointer (some ⟨w3.heap.size + 1, 0, none⟩)]] 139)) g w.heap.size (w3.heap.size + 1) w5.heap.size (w5.heap.size + 1) 1 bs (.func (.func 114) #[] #[.pointer (some ⟨w.heap.size, 0, none⟩), .pointer (some ⟨w3.heap.size + 1, 0, none⟩)]) (.func (.func 115) #[] #[.pointer (some ⟨w.heap.size, 0, none⟩), .pointer (some ⟨w3.heap.size + 1, 0, none⟩), .pointer (some ⟨w5.heap.size, 0, none⟩)]) (.func (.func 116) #[] #[.pointer (some ⟨w.heap.size, 0, none⟩), .pointer (some ⟨w3.heap.size + 1, 0, none⟩)])) := ⟨by
        have hb : ∀ o1 o2, Below w5.heap.size w5 ((w5.alloc o1).alloc o2) := fun o1 o2 => ((Below.refl _ _).alloc (Nat.le_refl _) _).alloc (by simp) _
        have hg := HG.out
        have h4 := lt_of_block' HX4.out
        have h5 := lt_of_block' HQ4.out
        have h6 := b5.size
        refine ⟨((hb _ _).block _ (by omega)).trans ((b5.block _ h4).trans HX4.out), ((hb _ _).block _ (by omega)).trans ((b5.block _ h5).trans HQ4.out), heap_first w5 _ _, heap_second w5 _ _, Chg.of_below (((B3.out.trans (HB4.out.mono (by omega))).trans (b5.mono (by omega))).trans ((hb _ _).mono (by omega))) g, by omega, by omega, by omega, by omega⟩⟩
      have HB6 : Kp (Below w.heap.size w ((w5.alloc (.cells #[.string bs] 9)).alloc (.cells #[.func (.func 114) #[] #[.pointer (some ⟨w.heap.size, 0, none⟩), .pointer (some ⟨w3.heap.size + 1, 0, none⟩)], .func (.func 115) #[] #[.pointer (some ⟨w.heap.size, 0, none⟩), .pointer (some ⟨w3.heap.size + 1, 0, none⟩), .pointer (some ⟨w5.heap.size, 0, none⟩)], .func (.func 116) #[] #[.pointer (some ⟨w.heap.size, 0, none⟩), .pointer (some ⟨w3.heap.size + 1, 0, none⟩)]] 139))) := ⟨by
        have hb : ∀ o1 o2, Below w5.heap.size w5 ((w5.alloc o1).alloc o2) := fun o1 o2 => ((Below.refl _ _).alloc (Nat.le_refl _) _).alloc (by simp) _
        have h4 := lt_of_block' HX4.out
        have h6 := b5.size
        exact ((B3.out.trans (HB4.out.mono (by omega))).trans (b5.mono (by omega))).trans ((hb _ _).mono (by omega))⟩
      clear HQ4 HX4 HB4 b5
      generalize (w5.alloc (.cells #[.string bs] 9)).alloc (.cells #[.func (.func 114) #[] #[.pointer (some ⟨w.heap.size, 0, none⟩), .pointer (some ⟨w3.heap.size + 1, 0, none⟩)], .func (.func 115) #[] #[.pointer (some ⟨w.heap.size, 0, none⟩), .pointer (some ⟨w3.heap.size + 1, 0, none⟩), .pointer (some ⟨w5.heap.size, 0, none⟩)], .func (.func 116) #[] #[.pointer (some ⟨w.heap.size, 0, none⟩), .pointer (some ⟨w3.heap.size + 1, 0, none⟩)]] 139) = w6 at *
      generalize w.heap.size = bd at HS ⊢
      generalize w3.heap.size + 1 = bt at HS ⊢
      generalize w5.heap.size + 1 = bf at HS ⊢
      generalize w5.heap.size = bb at HS ⊢
      have HD6 := Kp.mk (HDisk.out _ HB6.out)
      unfold putE at HPut
      refine wp_loop_rounds 4 ?_
      rw [rounds_succ]
      obtain ⟨c0, c1, c2⟩ := cells3' HS.out.xf
      have HN : Kp (∀ o, PutS w (w6.alloc o) g bd bt bb bf 1 bs _ _ _) := ⟨fun o => HS.out.next (Chg.alloc _ _ _)⟩
      have HDn : Kp (∀ o, DiskAt (w6.alloc o) g (D)) := ⟨fun o => HD6.out.alloc o⟩
      go_wp2_with fail
      refine (Put1_any g (D) 1 _ _ _ (HDn.out _) HOk.out (cell_of_row _ _ _ _ _ _ (HN.out _).xd) (cell_of_row _ _ _ _ _ _ (HN.out _).xt)).mono ?_
      rintro e w7 ⟨rfl, d7, c7⟩
      replace HD6 := Kp.mk d7
      replace HS := Kp.mk ((HN.out _).next c7)
      clear d7 c7 HN HDn c0 c1 c2
      by_cases e1 : (wipeV D 1).1 ≠ 0
      · rw [if_pos e1] at HPut
        have t1 : ((wipeV D 1).1 != 0) = true := by rw [bne_iff_ne]; exact e1
        have HP := HPut
        clear HPut e1
        generalize wipeV D 1 = P1 at *
        go_wp2
        go_ret
        exact ⟨by rw [← HP.out] <;> rfl, by rw [← HP.out]; exact HD6.out, HS.out.chg⟩
      rw [if_neg e1] at HPut
      have e1' : (wipeV D 1).1 = 0 := Classical.not_not.1 e1
      rw [e1']
      clear e1 e1'
      go_wp2
      rw [rounds_succ]
      obtain ⟨c0, c1, c2⟩ := cells3' HS.out.xf
      have HN : Kp (∀ o, PutS w (w7.alloc o) g bd bt bb bf 1 bs _ _ _) := ⟨fun o => HS.out.next (Chg.alloc _ _ _)⟩
      have HDn : Kp (∀ o, DiskAt (w7.alloc o) g ((wipeV D 1).2)) := ⟨fun o => HD6.out.alloc o⟩
      go_wp2_with fail
      refine (Put2_any g (wipeV D 1).2 1 bs _ _ _ _ (HDn.out _) (HOk.out.wipe 1) hsz (cell_of_row _ _ _ _ _ _ (HN.out _).xd) (cell_of_row _ _ _ _ _ _ (HN.out _).xt) (cell_of_row _ _ _ _ _ _ (HN.out _).xs)).mono ?_
      rintro e w8 ⟨rfl, d7, c7⟩
      replace HD6 := Kp.mk d7
      replace HS := Kp.mk ((HN.out _).next c7)
      clear d7 c7 HN HDn c0 c1 c2
      by_cases e1 : (writeV (wipeV D 1).2 1 bs).1 ≠ 0
      · rw [if_pos e1] at HPut
        have t1 : ((writeV (wipeV D 1).2 1 bs).1 != 0) = true := by rw [bne_iff_ne]; exact e1
        have HP := HPut
        clear HPut e1
        generalize writeV (wipeV D 1).2 1 bs = P1 at *
        go_wp2
        go_ret
        exact ⟨by rw [← HP.out] <;> rfl, by rw [← HP.out]; exact HD6.out, HS.out.chg⟩
      rw [if_neg e1] at HPut
      have e1' : (writeV (wipeV D 1).2 1 bs).1 = 0 := Classical.not_not.1 e1
      rw [e1']
      clear e1 e1'
      go_wp2
      rw [rounds_succ]
      obtain ⟨c0, c1, c2⟩ := cells3' HS.out.xf
      have HN : Kp (∀ o, PutS w (w8.alloc o) g bd bt bb bf 1 bs _ _ _) := ⟨fun o => HS.out.next (Chg.alloc _ _ _)⟩
      have HDn : Kp (∀ o, DiskAt (w8.alloc o) g ((writeV (wipeV D 1).2 1 bs).2)) := ⟨fun o => HD6.out.alloc o⟩
      go_wp2_with fail
      refine (Put3_any g (writeV (wipeV D 1).2 1 bs).2 1 _ _ _ (HDn.out _) ((HOk.out.wipe 1).write 1 bs) (cell_of_row _ _ _ _ _ _ (HN.out _).xd) (cell_of_row _ _ _ _ _ _ (HN.out _).xt)).mono ?_
      rintro e w9 ⟨rfl, d7, c7⟩
      replace HD6 := Kp.mk d7
      replace HS := Kp.mk ((HN.out _).next c7)
      clear d7 c7 HN HDn c0 c1 c2
      rw [HPut.out] at HD6 ⊢
      clear HPut
      by_cases e1 : E.1 ≠ 0
      · have t1 : (E.1 != 0) = true := by rw [bne_iff_ne]; exact e1
        clear e1
        go_wp2
        go_ret
        exact ⟨by trivial, HD6.out, HS.out.chg⟩
      have e1' : E.1 = 0 := Classical.not_not.1 e1
      have HE1 := Kp.mk e1'
      rw [e1']
      clear e1 e1'
      go_wp2
      rw [rounds_succ]
      go_wp2
      go_ret
      exact ⟨by rw [HE1.out] <;> rfl, HD6.out, HS.out.chg⟩
    · obtain rfl : on = 1 := by omega
      subst hOth
      replace HPut : Kp (putE D 0 bs = E) := ⟨HPut.out⟩
      have HQ4 := Kp.mk (heap_second w3 (.cells #[.int .i64 g3, .int .i64 ba3, .int .i64 s3, .slice lo3 ll3 lc3] 38) (.cells #[.int .i64 0] 3))
      have HB4 : Kp (Below w3.heap.size w3 ((w3.alloc (.cells #[.int .i64 g3, .int .i64 ba3, .int .i64 s3, .slice lo3 ll3 lc3] 38)).alloc (.cells #[.int .i64 0] 3))) := ⟨((Below.refl _ _).alloc (Nat.le_refl _) _).alloc (by simp) _⟩
      have HX4 := Kp.mk ((HB4.out.block _ hlt3).trans HX3.out)
      go_wp2_with fail
      generalize (w3.alloc (.cells #[.int .i64 g3, .int .i64 ba3, .int .i64 s3, .slice lo3 ll3 lc3] 38)).alloc (.cells #[.int .i64 0] 3) = w4 at *
      refine (HMk.out _ (B3.out.trans (HB4.out.mono (by omega)))).mono ?_
      rintro e w5 ⟨rfl, b5⟩
      go_wp2
      have HS : Kp (PutS w ((w5.alloc (.cells #[.string bs] 9)).alloc (.cells #[.func (.func 114) #[] #[.pointer (some ⟨w.heap.size, 0, none⟩), .pointer (some ⟨w3.heap.size + 1, 0, none⟩)], .func (.func 115) #[] #[.pointer (some ⟨w.heap.size, 0, none⟩), .pointer (some ⟨w3.heap.size + 1, 0, none⟩), .pointer (some ⟨w5.heap.size, 0, none⟩)], .func (.func 116) #[] #[.pointer (some ⟨w.heap.size, 0, none⟩), .pointer (some ⟨w3.heap.size + 1, 0, none⟩)]] 139)) g w.heap.size (w3.heap.size + 1) w5.heap.size (w5.heap.size + 1) 0 bs (.func (.func 114) #[] #[.pointer (some ⟨w.heap.size, 0, none⟩), .pointer (some ⟨w3.heap.size + 1, 0, none⟩)]) (.func (.func 115) #[] #[.pointer (some ⟨w.heap.size, 0, none⟩), .pointer (some ⟨w3.heap.size + 1, 0, none⟩), .pointer (some ⟨w5.heap.size, 0, none⟩)]) (.func (.func 116) #[] #[.pointer (some ⟨w.heap.size, 0, none⟩), .pointer (some ⟨w3.heap.size + 1, 0, none⟩)])) := ⟨by
        have hb : ∀ o1 o2, Below w5.heap.size w5 ((w5.alloc o1).alloc o2) := fun o1 o2 => ((Below.refl _ _).alloc (Nat.le_refl _) _).alloc (by simp) _
        have hg := HG.out
        have h4 := lt_of_block' HX4.out
        have h5 := lt_of_block' HQ4.out
        have h6 := b5.size
        refine ⟨((hb _ _).block _ (by omega)).trans ((b5.block _ h4).trans HX4.out), ((hb _ _).block _ (by omega)).trans ((b5.block _ h5).trans HQ4.out), heap_first w5 _ _, heap_second w5 _ _, Chg.of_below (((B3.out.trans (HB4.out.mono (by omega))).trans (b5.mono (by omega))).trans ((hb _ _).mono (by omega))) g, by omega, by omega, by omega, by omega⟩⟩
      have HB6 : Kp (Below w.heap.size w ((w5.alloc (.cells #[.string bs] 9)).alloc (.cells #[.func (.func 114) #[] #[.pointer (some ⟨w.heap.size, 0, none⟩), .pointer (some ⟨w3.heap.size + 1, 0, none⟩)], .func (.func 115) #[] #[.pointer (some ⟨w.heap.size, 0, none⟩), .pointer (some ⟨w3.heap.size + 1, 0, none⟩), .pointer (some ⟨w5.heap.size, 0, none⟩)], .func (.func 116) #[] #[.pointer (some ⟨w.heap.size, 0, none⟩), .pointer (some ⟨w3.heap.size + 1, 0, none⟩)]] 139))) := ⟨by
        have hb : ∀ o1 o2, Below w5.heap.size w5 ((w5.alloc o1).alloc o2) := fun o1 o2 => ((Below.refl _ _).alloc (Nat.le_refl _) _).alloc (by simp) _
        have h4 := lt_of_block' HX4.out
        have h6 := b5.size
        exact ((B3.out.trans (HB4.out.mono (by omega))).trans (b5.mono (by omega))).trans ((hb _ _).mono (by omega))⟩
      clear HQ4 HX4 HB4 b5
      generalize (w5.alloc (.cells #[.string bs] 9)).alloc (.cells #[.func (.func 114) #[] #[.pointer (some ⟨w.heap.size, 0, none⟩), .pointer (some ⟨w3.heap.size + 1, 0, none⟩)], .func (.func 115) #[] #[.pointer (some ⟨w.heap.size, 0, none⟩), .pointer (some ⟨w3.heap.size + 1, 0, none⟩), .pointer (some ⟨w5.heap.size, 0, none⟩)], .func (.func 116) #[] #[.pointer (some ⟨w.heap.size, 0, none⟩), .pointer (some ⟨w3.heap.size + 1, 0, none⟩)]] 139) = w6 at *
      generalize w.heap.size = bd at HS ⊢
      generalize w3.heap.size + 1 = bt at HS ⊢
      generalize w5.heap.size + 1 = bf at HS ⊢
      generalize w5.heap.size = bb at HS ⊢
      have HD6 := Kp.mk (HDisk.out _ HB6.out)
      unfold putE at HPut
      refine wp_loop_rounds 4 ?_
      rw [rounds_succ]
      obtain ⟨c0, c1, c2⟩ := cells3' HS.out.xf
      have HN : Kp (∀ o, PutS w (w6.alloc o) g bd bt bb bf 0 bs _ _ _) := ⟨fun o => HS.out.next (Chg.alloc _ _ _)⟩
      have HDn : Kp (∀ o, DiskAt (w6.alloc o) g (D)) := ⟨fun o => HD6.out.alloc o⟩
      go_wp2_with fail
      refine (Put1_any g (D) 0 _ _ _ (HDn.out _) HOk.out (cell_of_row _ _ _ _ _ _ (HN.out _).xd) (cell_of_row _ _ _ _ _ _ (HN.out _).xt)).mono ?_
      rintro e w7 ⟨rfl, d7, c7⟩
      replace HD6 := Kp.mk d7
      replace HS := Kp.mk ((HN.out _).next c7)
      clear d7 c7 HN HDn c0 c1 c2
      by_cases e1 : (wipeV D 0).1 ≠ 0
      · rw [if_pos e1] at HPut
        have t1 : ((wipeV D 0).1 != 0) = true := by rw [bne_iff_ne]; exact e1
        have HP := HPut
        clear HPut e1
        generalize wipeV D 0 = P1 at *
        go_wp2
        go_ret
        exact ⟨by rw [← HP.out] <;> rfl, by rw [← HP.out]; exact HD6.out, HS.out.chg⟩
      rw [if_neg e1] at HPut
      have e1' : (wipeV D 0).1 = 0 := Classical.not_not.1 e1
      rw [e1']
      clear e1 e1'
      go_wp2
      rw [rounds_succ]
      obtain ⟨c0, c1, c2⟩ := cells3' HS.out.xf
      have HN : Kp (∀ o, PutS w (w7.alloc o) g bd bt bb bf 0 bs _ _ _) := ⟨fun o => HS.out.next (Chg.alloc _ _ _)⟩
      have HDn : Kp (∀ o, DiskAt (w7.alloc o) g ((wipeV D 0).2)) := ⟨fun o => HD6.out.alloc o⟩
      go_wp2_with fail
      refine (Put2_any g (wipeV D 0).2 0 bs _ _ _ _ (HDn.out _) (HOk.out.wipe 0) hsz (cell_of_row _ _ _ _ _ _ (HN.out _).xd) (cell_of_row _ _ _ _ _ _ (HN.out _).xt) (cell_of_row _ _ _ _ _ _ (HN.out _).xs)).mono ?_
      rintro e w8 ⟨rfl, d7, c7⟩
      replace HD6 := Kp.mk d7
      replace HS := Kp.mk ((HN.out _).next c7)
      clear d7 c7 HN HDn c0 c1 c2
      by_cases e1 : (writeV (wipeV D 0).2 0 bs).1 ≠ 0
      · rw [if_pos e1] at HPut
        have t1 : ((writeV (wipeV D 0).2 0 bs).1 != 0) = true := by rw [bne_iff_ne]; exact e1
        have HP := HPut
        clear HPut e1
        generalize writeV (wipeV D 0).2 0 bs = P1 at *
        go_wp2
        go_ret
        exact ⟨by rw [← HP.out] <;> rfl, by rw [← HP.out]; exact HD6.out, HS.out.chg⟩
      rw [if_neg e1] at HPut
      have e1' : (writeV (wipeV D 0).2 0 bs).1 = 0 := Classical.not_not.1 e1
      rw [e1']
      clear e1 e1'
      go_wp2
      rw [rounds_succ]
      obtain ⟨c0, c1, c2⟩ := cells3' HS.out.xf
      have HN : Kp (∀ o, PutS w (w8.alloc o) g bd bt bb bf 0 bs _ _ _) := ⟨fun o => HS.out.next (Chg.alloc _ _ _)⟩
      have HDn : Kp (∀ o, DiskAt (w8.alloc o) g ((writeV (wipeV D 0).2 0 bs).2)) := ⟨fun o => HD6.out.alloc o⟩
      go_wp2_with fail
      refine (Put3_any g (writeV (wipeV D 0).2 0 bs).2 0 _ _ _ (HDn.out _) ((HOk.out.wipe 0).write 0 bs) (cell_of_row _ _ _ _ _ _ (HN.out _).xd) (cell_of_row _ _ _ _ _ _ (HN.out _).xt)).mono ?_
      rintro e w9 ⟨rfl, d7, c7⟩
      replace HD6 := Kp.mk d7
      replace HS := Kp.mk ((HN.out _).next c7)
      clear d7 c7 HN HDn c0 c1 c2
      rw [HPut.out] at HD6 ⊢
      clear HPut
      by_cases e1 : E.1 ≠ 0
      · have t1 : (E.1 != 0) = true := by rw [bne_iff_ne]; exact e1
        clear e1
        go_wp2
        go_ret
        exact ⟨by trivial, HD6.out, HS.out.chg⟩
      have e1' : E.1 = 0 := Classical.not_not.1 e1
      have HE1 := Kp.mk e1'
      rw [e1']
      clear e1 e1'
      go_wp2
      rw [rounds_succ]
      go_wp2
      go_ret
      exact ⟨by rw [HE1.out] <;> rfl, HD6.out, HS.out.chg⟩
end Go.Proofs.YtpfoekfbcpinlaaGreatDoor
/- Are two heads the same? The walk of Same; Put, all in all. -/
namespace Go.Proofs.YtpfoekfbcpinlaaGreatDoor
open Go.RowKit
set_option linter.unusedVariables false

theorem rowI_eq {f g : Nat → Int} {n m : Nat} : rowI f n = rowI g m ↔ n = m ∧ ∀ j, j < n → f j = g j := by
  constructor
  · intro h
    have hl : n = m := by have := congrArg List.length h; rwa [rowI_len, rowI_len] at this
    subst hl
    refine ⟨rfl, fun j hj => ?_⟩
    have := congrArg (fun l => l[j]?) h
    simpa [rowI, hj] using this
  · rintro ⟨rfl, h⟩
    exact List.map_congr_left fun j hj => h j (List.mem_range.1 hj)
namespace Hd
def sameB (a b : HV) : Bool := decide (a.gen = b.gen) && (decide (a.base = b.base) && (decide (a.snap = b.snap) && decide (a.log = b.log)))
theorem sameB_iff {a b : HV} : sameB a b = true ↔ a = b := by
  obtain ⟨a1, a2, a3, a4⟩ := a
  obtain ⟨b1, b2, b3, b4⟩ := b
  simp [sameB]
end Hd
namespace Hd
theorem putV_ok {D : DiskV} (h : Ok D) (q : HV) : Ok (putV D q).2 := by
  unfold putV
  split
  · exact h
  · split
    · exact h
    · split
      · exact h.wipe _
      · split
        · exact (h.wipe _).write _ _
        · exact ((h.wipe _).write _ _).sync _
end Hd
theorem HPut_any (g : Nat) (D : DiskV) (q : HdV) (w : World) (h : DiskAt w g D) (ho : Ok D) (ht : Tab w) (hq : HdAt w q) :
    Calls Tryz.prog 96 #[.pointer (some ⟨g, 0, none⟩), q.v] w fun e w' => e = .returned (.int .i64 (Hd.putV D q.hv).1) ∧ DiskAt w' g (Hd.putV D q.hv).2 ∧ Chg w w' g := by
  unfold Hd.putV
  cases hm : q.hv.may
  · rw [if_pos rfl]
    exact (Put_no g D q w hq hm).mono fun e w' ⟨he, hb⟩ => ⟨he, h.below hb, Chg.of_below hb g⟩
  · rw [if_neg (by simp)]
    cases hd : D.down
    · rw [if_neg (by simp)]
      exact Put_go g D q w h ho ht hq hm hd
    · rw [if_pos rfl]
      exact (Put_down g D q w h hq hm hd).mono fun e w' ⟨he, hb⟩ => ⟨he, h.below hb, Chg.of_below hb g⟩
end Go.Proofs.YtpfoekfbcpinlaaGreatDoor
