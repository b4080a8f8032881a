/- The walk of FrameReads. -/
import Derived.Test.YtdclfffjiokenaaDoorFrameAwake
import Derived.Test.YtdclfffjiokenaaDoorRowSet
import Derived.Deep.RegionWith
import Derived.Deep.QuietTactic
import Derived.BigQuiet
namespace Go.Proofs.YtdclfffjiokenaaDoor
open Go.RowKit
set_option linter.unusedVariables false

theorem sameR_of (k : Nat) (p : List UInt8) (a : Int) (w : World) (hk : k < 256) :
    Calls Tryd.prog 22 #[.agg #[.int .u8 k, .string (B p), .int .i64 a], .agg #[.int .u8 k, .string (B p), .int .i64 a]] w fun e w' => e = .returned (.bool true) ∧ Below w.heap.size w w' := by
  have := same_of k p a k p a w hk hk
  simpa using this
theorem scanV_len (s : ByteArray) (a : Int) : (scanV s a).1.length ≤ s.size := by
  unfold scanV
  split
  · simp
  · have : ∀ p, p ≤ s.data.toList.length → (scanL s.data.toList p).1.length + p ≤ s.data.toList.length := by
      intro p
      induction p using scanL.induct (l := s.data.toList) with
      | case1 p h ih =>
        intro hp
        have hx := frAt_next h
        rw [scanL_ok h]
        have := ih hx.2
        simp only [List.length_cons]
        omega
      | case2 p h => intro hp; rw [scanL_end h]; simpa using hp
    have h := this a.toNat (by rw [data_len]; omega)
    rw [data_len] at h
    omega
theorem readV_kind (s : ByteArray) (a : Int) : (Fr.readV s a).2.1 < 256 := by
  unfold Fr.readV
  split
  · simp
  · exact Fr.readL_kind _
theorem scanV_kind (s : ByteArray) (a : Int) : ∀ f ∈ (scanV s a).1, f.k < 256 := by
  unfold scanV
  split
  · intro f hf; simp at hf
  · generalize a.toNat = p
    induction p using scanL.induct (l := s.data.toList) with
    | case1 p h ih =>
      rw [scanL_ok h]
      intro f hf
      rcases List.mem_cons.1 hf with rfl | hf
      · exact Fr.readL_kind _
      · exact ih f hf
    | case2 p h => rw [scanL_end h]; intro f hf; simp at hf
set_option maxRecDepth 100000 in
set_option maxHeartbeats 4000000 in
theorem reads_small (s : ByteArray) (a : Int) (kd : Nat) (w : World) (hs : s.size ≤ 20000) (h1 : -9223372036854775808 ≤ a) (h2 : a ≤ 9223372036854775807) (hk : kd < 256) (ht : Tab w) :
    Calls Tryd.prog 8 #[.string s, .int .i64 a, .int .u8 kd] w fun e w' => e = .returned (.bool true) ∧ Below w.heap.size w w' := by
  have HA := Kp.mk awake_any
  have HT := Kp.mk ht
  have HR := Kp.mk (fun w hw => Read_any s a w (by omega) h1 h2 hw)
  have HR2 := Kp.mk (fun w => refRead_any s a w (by omega) h1 h2)
  have HSc := Kp.mk (fun w hw => Scan_any s a w (by omega) h1 h2 hw)
  have HSr := Kp.mk (fun w => refScan_any s a w (by omega) h1 h2)
  have HO := Kp.mk (fun w hw => One_any s kd w (by omega) hk hw)
  have HOr := Kp.mk (fun w => refOne_any s kd w (by omega) hk)
  have hlen := scanV_len s a
  have HKd := Kp.mk (scanV_kind s a)
  have hk1 := Fr.readL_kind
  have hre : ∃ (k : Nat) (p : List UInt8) (A N : Int) (e : Nat), Fr.readE s a = .returned (.tuple #[.agg #[.int .u8 k, .string (B p), .int .i64 A], .int .i64 N, .int .i64 e]) ∧ k < 256 := ⟨_, _, _, _, _, rfl, readV_kind s a⟩
  obtain ⟨k, p, A, N, er, hre, hk256⟩ := hre
  rw [hre] at HR HR2
  generalize scanV s a = sc at HSc HSr hlen HKd
  generalize oneV s kd = ov at HO HOr
  obtain ⟨l, gd⟩ := sc
  obtain ⟨op, ob⟩ := ov
  simp only [] at HSc HSr HO HOr hlen HKd
  have HS := Kp.mk (fun w => sameR_of k p A w hk256)
  have t1 : decide (20000 < (s.size : Int)) = false := by rw [decide_eq_false_iff_not]; omega
  clear ht hre hk1
  have hll : l.length ≤ 20000 := by omega
  go_enter Tryd.func8, Tryd.ntmps8
  go_wp2_with fail
  refine (HR.out _ HT.out).mono ?_
  rintro e w1 ⟨rfl, b1⟩
  have B1 := Kp.mk (b1.alloc b1.size (.cells #[.int .u8 k, .string (B p), .int .i64 A] 26))
  clear b1
  go_wp2_with fail
  refine (HR2.out _).mono ?_
  rintro e w2 ⟨rfl, b2⟩
  have hblk := (b2.block _ (by simp)).trans (heap_alloc_new w1 (.cells #[.int .u8 k, .string (B p), .int .i64 A] 26))
  obtain ⟨⟨c0, c1, c2⟩, _⟩ := cells3 hblk
  have hz12 : w1.heap.size < w2.heap.size := by have := b2.size; simp at this; omega
  have d0 : ∀ o, (w2.alloc o).cell? ⟨w1.heap.size, 0, none⟩ = some (.int .u8 k) := fun o => by rw [((Below.refl w2.heap.size w2).alloc (Nat.le_refl _) o).cell hz12]; exact c0
  have d1 : ∀ o, (w2.alloc o).cell? ⟨w1.heap.size, 1, none⟩ = some (.string (B p)) := fun o => by rw [((Below.refl w2.heap.size w2).alloc (Nat.le_refl _) o).cell hz12]; exact c1
  have d2 : ∀ o, (w2.alloc o).cell? ⟨w1.heap.size, 2, none⟩ = some (.int .i64 A) := fun o => by rw [((Below.refl w2.heap.size w2).alloc (Nat.le_refl _) o).cell hz12]; exact c2
  have B2 := Kp.mk (B1.out.trans (b2.mono B1.out.size))
  have B2' := Kp.mk (B2.out.alloc B2.out.size (.cells #[.int .u8 k, .string (B p), .int .i64 A] 40))
  clear b2 hblk
  go_wp2_with fail
  refine (HS.out _).mono ?_
  rintro e w3 ⟨rfl, b3⟩
  have B3 := Kp.mk (B2'.out.trans (b3.mono B2'.out.size))
  clear b3 c0 c1 c2 d0 d1 d2 hz12
  go_wp2_with fail
  refine (HSr.out _).mono ?_
  rintro e w4 ⟨want, rfl, hwa, hwn, b4⟩
  have B4 := Kp.mk (B3.out.trans (b4.mono B3.out.size))
  have HW4 := Kp.mk hwa
  clear b4 hwa
  go_wp2_with fail
  go_loopw [15] (fun i wr => ∃ r : Nat, r ≤ 2 ∧ i = .int .i64 r ∧ RK 3 wr want l.length (l.flatMap FrV.cells) ∧ Below w.heap.size w wr) (fun i _ => 2 - (intOf i).toNat)
  case atStart => exact ⟨0, by omega, rfl, HW4.out, B4.out⟩
  case round =>
    obtain ⟨r, hr, rfl, hwr, hb⟩ := hrel
    have HW := Kp.mk hwr
    have HB := Kp.mk hb
    clear hwr hb
    have hrr : r = 0 ∨ r = 1 ∨ r = 2 := by omega
    by_cases hr2 : r < 2
    · go_wp2_with fail
      refine (HSc.out _ (HT.out.below HB.out)).mono ?_
      rintro e w5 ⟨v5, rfl, h5, hn5, b5⟩
      obtain ⟨a5, cp5, rfl, _, _⟩ := h5.len
      have H5 := Kp.mk h5
      have HN5 := Kp.mk hn5
      have HW5 := Kp.mk (HW.out.below b5)
      have B5 := Kp.mk (HB.out.trans (b5.mono HB.out.size))
      have HOff : Kp (∀ k, blk want = some k → blk (.slice a5 l.length cp5) ≠ some k) := ⟨fun k hk hk5 => by have := HW.out.lt k hk; have := hn5 k hk5; omega⟩
      have HNw : Kp (∀ k, blk (.slice a5 l.length cp5) = some k → w.heap.size ≤ k) := ⟨fun k hk => by have := hn5 k hk; have := HB.out.size; omega⟩
      clear h5 hn5 b5
      go_wp2_with fail
      have HAll := all_any _ want l l w5 H5.out HW5.out (by omega) HKd.out HKd.out
      rw [(allF_iff l l).2 rfl] at HAll
      refine HAll.mono ?_
      clear HAll
      rintro e w6 ⟨rfl, b6⟩
      have H6 := Kp.mk (H5.out.below b6)
      have HW6 := Kp.mk (HW5.out.below b6)
      have B6 := Kp.mk (B5.out.trans (b6.mono B5.out.size))
      clear b6
      go_wp2
      go_loopw [18] (fun i wr => ∃ j : Nat, j ≤ l.length ∧ i = .int .i64 j ∧ (∃ cs, RK 3 wr (.slice a5 l.length cp5) l.length cs) ∧ RK 3 wr want l.length (l.flatMap FrV.cells) ∧ Below w.heap.size w wr) (fun i _ => l.length - (intOf i).toNat)
      case atStart => exact ⟨0, by omega, rfl, ⟨_, H6.out⟩, HW6.out, B6.out⟩
      case round =>
        obtain ⟨j, hj, rfl, ⟨cs, h7⟩, hw7, hb7⟩ := hrel
        have HW7 := Kp.mk hw7
        have B7 := Kp.mk hb7
        clear hw7 hb7
        by_cases hjl : j < l.length
        · obtain ⟨g, cp, he, hcp1, hcp2, hg, hgb⟩ := h7.at_ (by omega)
          simp only [Value.slice.injEq] at he
          obtain ⟨rfl, _, rfl⟩ := he
          have H7 := Kp.mk h7
          have s0 := h7.some (j * 3) (by omega)
          have s1 := h7.some (j * 3 + 1) (by omega)
          have s2 := h7.some (j * 3 + 2) (by omega)
          have f0 := h7.free (j * 3) (by omega)
          have f1 := h7.free (j * 3 + 1) (by omega)
          have f2 := h7.free (j * 3 + 2) (by omega)
          obtain ⟨x0, y0⟩ := Option.isSome_iff_exists.1 s0
          obtain ⟨x1, y1⟩ := Option.isSome_iff_exists.1 s1
          obtain ⟨x2, y2⟩ := Option.isSome_iff_exists.1 s2
          have HGw := Kp.mk (HNw.out g hgb)
          have HGo := Kp.mk (show Off g want from fun k hk e => HOff.out k hk (by rw [hgb, e]))
          clear h7 s0 s1 s2
          go_wp2
          trace_state
          go_roundw
          case rel =>
            refine ⟨j + 1, by omega, by go_num, ⟨_, ((H7.out.put (j * 3) _ (by omega)).put (j * 3 + 1) _ (by omega)).put (j * 3 + 2) _ (by omega)⟩, ((HW7.out.off HGo.out).off HGo.out).off HGo.out, ((B7.out.setCell (p := ⟨g, _, none⟩) HGw.out _).setCell (p := ⟨g, _, none⟩) HGw.out _).setCell (p := ⟨g, _, none⟩) HGw.out _⟩
          case measure => simp [intOf]; omega
        · obtain rfl : j = l.length := by omega
          clear h7
          go_wp2
          go_roundw
          case rel => exact ⟨r + 1, by omega, by go_num, HW7.out, B7.out⟩
          case measure => simp [intOf]; omega
    · obtain rfl : r = 2 := by omega
      go_wp2_with fail
      refine (HO.out _ (HT.out.below HB.out)).mono ?_
      rintro e w8 ⟨rfl, b8⟩
      have B8 := Kp.mk (HB.out.trans (b8.mono HB.out.size))
      clear b8
      go_wp2_with fail
      refine (HOr.out _).mono ?_
      rintro e w9 ⟨rfl, b9⟩
      have B9 := Kp.mk (B8.out.trans (b9.mono B8.out.size))
      clear b9
      go_wp2_with fail
      refine (HA.out _ (HT.out.below B9.out)).mono ?_
      rintro e w10 ⟨rfl, b10⟩
      have B10 := Kp.mk (B9.out.trans (b10.mono B9.out.size))
      clear b10
      go_wp2
      go_ret
      exact ⟨rfl, B10.out⟩
theorem reads_long (s : ByteArray) (a : Int) (kd : Nat) (w : World) (hs : 20000 < s.size) (ht : Tab w) :
    Calls Tryd.prog 8 #[.string s, .int .i64 a, .int .u8 kd] w fun e w' => e = .returned (.bool true) ∧ Below w.heap.size w w' := by
  have HA := Kp.mk (awake_any w ht)
  have h1 : decide (20000 < (s.size : Int)) = true := by rw [decide_eq_true_eq]; omega
  go_enter Tryd.func8, Tryd.ntmps8
  go_wp2_with fail
  refine HA.out.mono ?_
  rintro e w1 ⟨rfl, b1⟩
  have B1 := Kp.mk b1
  clear b1
  go_wp2
  go_ret
  exact ⟨rfl, B1.out⟩
theorem walkFrameReads (w : World) (s : ByteArray) (hs : s.size ≤ maxLen) (n : Int) (hn : (Lit.int .i64 n).wf = true) (k : Int) (hk : (Lit.int .u8 k).wf = true) (hL : Tab w) :
    Calls Tryd.prog 8 #[.string s, .int .i64 n, .int .u8 k] w fun e w' => e = .returned (.bool true) ∧ Below w.heap.size w w' := by
  obtain ⟨k, rfl, h1⟩ := u8_nat hk
  by_cases h : 20000 < s.size
  · exact reads_long s n k w h hL
  · exact reads_small s n k w (by omega) (i64_int hn).1 (i64_int hn).2 h1 hL
end Go.Proofs.YtdclfffjiokenaaDoor
