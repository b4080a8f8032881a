/- The walk of SumNames: it returns true, and leaves what was there. -/
import Derived.Test.YtinbmoafdmccfaaDoorSumAwake
import Derived.Test.YtinbmoafdmccfaaDoorBytes
import Derived.OneCell
namespace Go.Proofs.YtinbmoafdmccfaaDoor
open Go.RowKit

structure Kp (p : Prop) : Prop where
  out : p
theorem many_any (n : Nat) (c : UInt8) (w : World) (hn : n ≤ 20000) :
    Calls Tryd.prog 22 #[.int .i64 n, .int .u8 (c.toNat : Int)] w fun e w' => e = .returned (.string ⟨(List.replicate n c).toArray⟩) ∧ Below w.heap.size w w' := by
  obtain ⟨i0, hi, hz0, hz1, hz2⟩ := info_parts infoByte
  go_enter Tryd.func22, Tryd.ntmps22
  go_wp2_with (refine wpList_make_full w rfl _ _ 28 rfl w.heap.size 5 i0 (.int .u8 0) 1 Tryd.underlying28 hi hz0 hz1 .i64 .i64 n n n rfl rfl rfl rfl (by rw [hz2]; omega) (by unfold maxLen; omega) (Nat.le_refl _) ?_; intro w1 hown hgrow)
  have HO : Kp (w1.ownsRow w.heap.size 5 1 (.slice (some ⟨w.heap.size, 0, none⟩) n n) n (by8 (List.replicate n 0))) := ⟨by rw [← made_bytes]; exact hown⟩
  have HB : Kp (Below w.heap.size w w1) := ⟨(Below.refl _ _).grown hgrow (Nat.le_refl _) (fun k hk => by cases hk)⟩
  clear hown hgrow
  go_wp2
  go_loopw [6] (fun i wr => ∃ k : Nat, k ≤ n ∧ i = .int .i64 k ∧ wr.ownsRow w.heap.size 5 1 (.slice (some ⟨w.heap.size, 0, none⟩) n n) n (by8 (List.replicate k c ++ List.replicate (n - k) 0)) ∧ Below w.heap.size w wr) (fun i _ => n - (intOf i).toNat)
  case atStart => exact ⟨0, by omega, rfl, by simpa using HO.out, HB.out⟩
  case round =>
    obtain ⟨k, hk, rfl, hown, hbel⟩ := hrel
    by_cases hlt : k < n
    · have hc := own_cell hown k (by simp; omega)
      have hz := hown.frozenAt k
      have HN : Kp ((wr.setCell ⟨w.heap.size, k, none⟩ (.int .u8 (c.toNat : Int))).ownsRow w.heap.size 5 1 (.slice (some ⟨w.heap.size, 0, none⟩) n n) n (by8 (List.replicate (k + 1) c ++ List.replicate (n - (k + 1)) 0))) := ⟨by
        have := own_stored hown k c
        have e := rep_set k n c 0 hlt
        rw [e] at this; exact this⟩
      have HBel : Kp (Below w.heap.size w (wr.setCell ⟨w.heap.size, k, none⟩ (.int .u8 (c.toNat : Int)))) := ⟨hbel.setCell (Nat.le_refl _) _⟩
      clear hown hbel
      go_wp2
      go_roundw
      case rel => exact ⟨k + 1, by omega, by go_num, HN.out, HBel.out⟩
      case measure => simp [intOf]; omega
    · obtain rfl : k = n := by omega
      have hown' : wr.ownsRow w.heap.size 5 1 (.slice (some ⟨w.heap.size, 0, none⟩) k k) (List.replicate k c).length (by8 (List.replicate k c)) := by simpa using hown
      have hconv := own_string hown'
      clear hown hown'
      go_wp2
      go_ret
      exact ⟨rfl, hbel⟩

theorem many_at (c : UInt8) (cv : Int) (w : World) (hc : cv = (c.toNat : Int)) :
    Calls Tryd.prog 22 #[.int .i64 32, .int .u8 cv] w fun e w' => e = .returned (.string ⟨(List.replicate 32 c).toArray⟩) ∧ Below w.heap.size w w' := by
  subst hc
  exact many_any 32 c w (by decide)
theorem same_at (s : ByteArray) (m : Int) (b : Bool) (w : World) (h0 : 0 ≤ m) (hs : s.size ≤ 140737488351232) (hb : decide (Crc.mask (Crc.crc s.data.toList) = m.toNat) = b) (ht : Tab w) :
    Calls Tryd.prog 14 #[.string s, .int .u32 m] w fun e w' => e = .returned (.bool b) ∧ w = w' := by
  obtain ⟨n, rfl⟩ := Int.eq_ofNat_of_zero_le h0
  rw [Int.toNat_natCast] at hb
  exact (same_any s n w hs ht).mono fun e w' ⟨he, hw⟩ => ⟨by rw [he, hb], hw⟩
def upL (k : Nat) : List UInt8 := (List.range k).map (fun i => UInt8.ofNat i) ++ List.replicate (32 - k) 0
def downL (k : Nat) : List UInt8 := (List.range k).map (fun i => UInt8.ofNat (31 - i)) ++ List.replicate (32 - k) 0
theorem upL_set : ∀ k, k < 32 → (upL k).set k (UInt8.ofNat k) = upL (k + 1) := by decide +kernel
theorem downL_set : ∀ k, k < 32 → (downL k).set k (UInt8.ofNat (31 - k)) = downL (k + 1) := by decide +kernel
theorem u8_val {k : Nat} (h : k < 32) : ((UInt8.ofNat k).toNat : Int) = (k : Int) := by
  rw [UInt8.toNat_ofNat', Nat.mod_eq_of_lt (by omega)]
theorem upL_len (k : Nat) (h : k ≤ 32) : (upL k).length = 32 := by simp [upL]; omega
theorem downL_len (k : Nat) (h : k ≤ 32) : (downL k).length = 32 := by simp [downL]; omega
theorem own_below {w w' : World} {base : Nat} {e : TypeId} {size : Nat} {v : Value} {n : Nat} {xs : List Value} (h : w.ownsRow base e size v n xs) (hb : Below w.heap.size w w') : w'.ownsRow base e size v n xs := by
  refine ⟨h.1, ?_⟩
  rcases h.2 with h2 | ⟨g, cap, cur, h1, h2, h3, h4⟩
  · exact .inl h2
  · refine .inr ⟨g, cap, cur, h1, h2, ?_, h4⟩
    rw [hb.block g (lt_of_block h3)]; exact h3
theorem join_zero (b : Nat) (n : Int) : Crc.join 0 b n = b := by
  unfold Crc.join
  rw [Crc.carry_zero, Nat.zero_xor]
def zero32 : Array Value := (by8 (List.replicate 32 0)).toArray
theorem zero32_own {base : Nat} (w : World) (hb : base ≤ w.heap.size) : (w.alloc (.cells zero32 5 (0, 0))).ownsRow base 5 1 (.slice (some ⟨w.heap.size, 0, none⟩) 32 32) 32 (by8 (upL 0)) :=
  World.ownsRow_lit w zero32 32 hb (by decide) (by decide)
set_option maxRecDepth 100000 in
set_option maxHeartbeats 4000000 in
theorem walkSumNames (w : World) (hL : Tab w) :
    Calls Tryd.prog 9 #[] w fun e w' => e = .returned (.bool true) ∧ Below w.heap.size w w' := by
  have HT : Kp (Tab w) := ⟨hL⟩
  clear hL
  have hmk : ∀ w : World, (Instr.makeSlice 28 (.int .i64 32) (.int .i64 32)).run Tryd.prog w = .ok (.slice (some ⟨w.heap.size, 0, none⟩) 32 32) (w.alloc (.cells zero32 5 (0, 0))) := fun _ => by kernel_rfl
  have HO1 : Kp (((w.alloc (.cells zero32 5 (0, 0))).alloc (.cells zero32 5 (0, 0))).ownsRow w.heap.size 5 1 (.slice (some ⟨w.heap.size, 0, none⟩) 32 32) 32 (by8 (upL 0))) := ⟨(zero32_own w (Nat.le_refl _)).alloc _⟩
  have HO2 : Kp (((w.alloc (.cells zero32 5 (0, 0))).alloc (.cells zero32 5 (0, 0))).ownsRow w.heap.size 5 1 (.slice (some ⟨w.heap.size + 1, 0, none⟩) 32 32) 32 (by8 (downL 0))) := ⟨by
    have := zero32_own (base := w.heap.size) (w.alloc (.cells zero32 5 (0, 0))) (by simp)
    rw [show downL 0 = upL 0 from rfl]
    simpa using this⟩
  have HB : Kp (Below w.heap.size w ((w.alloc (.cells zero32 5 (0, 0))).alloc (.cells zero32 5 (0, 0)))) := ⟨((Below.refl _ _).alloc (Nat.le_refl _) _).alloc (by simp) _⟩
  go_enter Tryd.func9, Tryd.ntmps9
  go_wp2_with fail
  go_loopw [3] (fun i wr => ∃ k : Nat, k ≤ 32 ∧ i = .int .i64 k ∧ wr.ownsRow w.heap.size 5 1 (.slice (some ⟨w.heap.size, 0, none⟩) 32 32) 32 (by8 (upL k)) ∧ wr.ownsRow w.heap.size 5 1 (.slice (some ⟨w.heap.size + 1, 0, none⟩) 32 32) 32 (by8 (downL k)) ∧ Below w.heap.size w wr) (fun i _ => 32 - (intOf i).toNat)
  case atStart => exact ⟨0, by omega, rfl, HO1.out, HO2.out, HB.out⟩
  case round =>
    clear hmk
    obtain ⟨k, hk, rfl, hown1, hown2, hbel⟩ := hrel
    by_cases hlt : k < 32
    · have hc1 := own_cell hown1 k (by rw [upL_len k hk]; exact hlt)
      have hz1 := hown1.frozenAt k
      have hc2 := own_cell hown2 k (by rw [downL_len k hk]; exact hlt)
      have hz2 := hown2.frozenAt k
      have HN1 : Kp (((wr.setCell ⟨w.heap.size, k, none⟩ (.int .u8 (k : Int))).setCell ⟨w.heap.size + 1, k, none⟩ (.int .u8 (31 - (k : Int)))).ownsRow w.heap.size 5 1 (.slice (some ⟨w.heap.size, 0, none⟩) 32 32) 32 (by8 (upL (k + 1)))) := ⟨by
        have h1 := own_stored hown1 k (UInt8.ofNat k)
        rw [upL_set k hlt, u8_val hlt] at h1
        exact ownsRow_setCell_other h1 (by simp [Value.ownBlock]) _⟩
      have HN2 : Kp (((wr.setCell ⟨w.heap.size, k, none⟩ (.int .u8 (k : Int))).setCell ⟨w.heap.size + 1, k, none⟩ (.int .u8 (31 - (k : Int)))).ownsRow w.heap.size 5 1 (.slice (some ⟨w.heap.size + 1, 0, none⟩) 32 32) 32 (by8 (downL (k + 1)))) := ⟨by
        have h1 := own_stored (ownsRow_setCell_other (a := ⟨w.heap.size, k, none⟩) hown2 (by simp [Value.ownBlock]) (.int .u8 (k : Int))) k (UInt8.ofNat (31 - k))
        rw [downL_set k hlt, u8_val (k := 31 - k) (by omega), show ((31 - k : Nat) : Int) = 31 - (k : Int) from by omega] at h1
        exact h1⟩
      have HBel : Kp (Below w.heap.size w ((wr.setCell ⟨w.heap.size, k, none⟩ (.int .u8 (k : Int))).setCell ⟨w.heap.size + 1, k, none⟩ (.int .u8 (31 - (k : Int))))) := ⟨(hbel.setCell (Nat.le_refl _) _).setCell (by simp) _⟩
      clear hown1 hown2 hbel
      generalize (upL k)[k]'(by rw [upL_len k hk]; exact hlt) = x1 at hc1
      generalize (downL k)[k]'(by rw [downL_len k hk]; exact hlt) = x2 at hc2
      go_wp2
      go_roundw
      case rel => exact ⟨k + 1, by omega, by go_num, HN1.out, HN2.out, HBel.out⟩
      case measure => simp [intOf]; omega
    · obtain rfl : k = 32 := by omega
      have HO1 : Kp (wr.ownsRow w.heap.size 5 1 (.slice (some ⟨w.heap.size, 0, none⟩) 32 32) 32 (by8 (upL 32))) := ⟨hown1⟩
      have HO2 : Kp (wr.ownsRow w.heap.size 5 1 (.slice (some ⟨w.heap.size + 1, 0, none⟩) 32 32) 32 (by8 (downL 32))) := ⟨hown2⟩
      have HB : Kp (Below w.heap.size w wr) := ⟨hbel⟩
      replace HT : Kp (Tab wr) := ⟨HT.out.below hbel⟩
      clear hown1 hown2 hbel
      have HR : Kp (Below wr.heap.size wr wr) := ⟨Below.refl _ _⟩
      go_wp2_with fail
      refine (of_at _ 3808858755 _ (by decide) (by decide +kernel) HT.out).mono ?_
      rintro e w' ⟨rfl, rfl⟩
      go_wp2_with fail
      refine (awake_any _ HT.out).mono ?_
      rintro e w1 ⟨rfl, hb1⟩
      replace HT : Kp (Tab w1) := ⟨HT.out.below hb1⟩
      replace HB : Kp (Below w.heap.size w w1) := ⟨HB.out.trans (hb1.mono HB.out.size)⟩
      replace HR : Kp (Below wr.heap.size wr w1) := ⟨HR.out.trans (hb1.mono HR.out.size)⟩
      clear hb1
      go_wp2_with fail
      refine (many_at 0 0 _ rfl).mono ?_
      rintro e w2 ⟨rfl, hb2⟩
      replace HT : Kp (Tab w2) := ⟨HT.out.below hb2⟩
      replace HB : Kp (Below w.heap.size w w2) := ⟨HB.out.trans (hb2.mono HB.out.size)⟩
      replace HR : Kp (Below wr.heap.size wr w2) := ⟨HR.out.trans (hb2.mono HR.out.size)⟩
      clear hb2
      go_wp2_with fail
      refine (of_at _ 2324772522 _ (by decide) (by decide +kernel) HT.out).mono ?_
      rintro e w' ⟨rfl, rfl⟩
      go_wp2_with fail
      refine (many_at 255 255 _ rfl).mono ?_
      rintro e w3 ⟨rfl, hb3⟩
      replace HT : Kp (Tab w3) := ⟨HT.out.below hb3⟩
      replace HB : Kp (Below w.heap.size w w3) := ⟨HB.out.trans (hb3.mono HB.out.size)⟩
      replace HR : Kp (Below wr.heap.size wr w3) := ⟨HR.out.trans (hb3.mono HR.out.size)⟩
      clear hb3
      go_wp2_with fail
      refine (of_at _ 1655221059 _ (by decide) (by decide +kernel) HT.out).mono ?_
      rintro e w' ⟨rfl, rfl⟩
      have hcv1 := own_string (l := upL 32) (own_below HO1.out HR.out)
      have hcv2 := own_string (l := downL 32) (own_below HO2.out HR.out)
      go_wp2_with fail
      refine (of_at _ 1188919630 _ (by decide) (by decide +kernel) HT.out).mono ?_
      rintro e w' ⟨rfl, rfl⟩
      go_wp2_with fail
      refine (of_at _ 289397596 _ (by decide) (by decide +kernel) HT.out).mono ?_
      rintro e w' ⟨rfl, rfl⟩
      go_wp2_with fail
      refine (of_at _ 4131058926 _ (by decide) (by decide +kernel) HT.out).mono ?_
      rintro e w' ⟨rfl, rfl⟩
      go_wp2_with fail
      refine (add_at _ _ 3808858755 _ (by decide) (by decide) (by decide) (by decide +kernel) HT.out).mono ?_
      rintro e w' ⟨rfl, rfl⟩
      go_wp2_with fail
      refine (of_at _ 306354154 _ (by decide) (by decide +kernel) HT.out).mono ?_
      rintro e w' ⟨rfl, rfl⟩
      go_wp2_with fail
      refine (of_at _ 1684681876 _ (by decide) (by decide +kernel) HT.out).mono ?_
      rintro e w' ⟨rfl, rfl⟩
      go_wp2_with fail
      refine (join_at 306354154 1684681876 2 3808858755 _ (by decide) (by decide) (by decide) (by decide) (by decide) (by decide +kernel)).mono ?_
      rintro e w4 ⟨rfl, hb4⟩
      replace HT : Kp (Tab w4) := ⟨HT.out.below hb4⟩
      replace HB : Kp (Below w.heap.size w w4) := ⟨HB.out.trans (hb4.mono HB.out.size)⟩
      clear hb4
      go_wp2_with fail
      refine (plain_at 2726488792 0 _ (by decide) (by decide) (by decide +kernel)).mono ?_
      rintro e w' ⟨rfl, rfl⟩
      go_wp2_with fail
      refine (mask_at 1 2726619864 _ (by decide) (by decide) (by decide +kernel)).mono ?_
      rintro e w' ⟨rfl, rfl⟩
      go_wp2_with fail
      refine (mask_at 32768 2726488793 _ (by decide) (by decide) (by decide +kernel)).mono ?_
      rintro e w' ⟨rfl, rfl⟩
      go_wp2_with fail
      refine (join_at 5 6 (-1) 3 _ (by decide) (by decide) (by decide) (by decide) (by decide) (by decide +kernel)).mono ?_
      rintro e w5 ⟨rfl, hb5⟩
      replace HT : Kp (Tab w5) := ⟨HT.out.below hb5⟩
      replace HB : Kp (Below w.heap.size w w5) := ⟨HB.out.trans (hb5.mono HB.out.size)⟩
      clear hb5
      go_wp2_with fail
      refine (join_any 0 7 4611686018427387904 _ (by decide) (by decide) (by decide)).mono ?_
      rw [join_zero 7 _]
      rintro e w6 ⟨rfl, hb6⟩
      replace HT : Kp (Tab w6) := ⟨HT.out.below hb6⟩
      replace HB : Kp (Below w.heap.size w w6) := ⟨HB.out.trans (hb6.mono HB.out.size)⟩
      clear hb6
      go_wp2_with fail
      refine (mask_at 3808858755 3347755237 _ (by decide) (by decide) (by decide +kernel)).mono ?_
      rintro e w' ⟨rfl, rfl⟩
      go_wp2_with fail
      refine (same_at _ 3347755237 true _ (by decide) (by decide) (by decide +kernel) HT.out).mono ?_
      rintro e w' ⟨rfl, rfl⟩
      go_wp2_with fail
      refine (same_at _ 3808858755 false _ (by decide) (by decide) (by decide +kernel) HT.out).mono ?_
      rintro e w' ⟨rfl, rfl⟩
      go_wp2_with fail
      refine (mask_at 3808858755 3347755237 _ (by decide) (by decide) (by decide +kernel)).mono ?_
      rintro e w' ⟨rfl, rfl⟩
      go_wp2_with fail
      refine (same_at _ 3347755237 false _ (by decide) (by decide) (by decide +kernel) HT.out).mono ?_
      rintro e w' ⟨rfl, rfl⟩
      go_wp2_with fail
      go_ret
      exact ⟨rfl, HB.out⟩
end Go.Proofs.YtinbmoafdmccfaaDoor
