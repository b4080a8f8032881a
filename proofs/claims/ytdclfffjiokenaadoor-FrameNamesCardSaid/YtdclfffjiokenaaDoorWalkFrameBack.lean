/- The walk of FrameBack. -/
import Derived.Test.YtdclfffjiokenaaDoorFrameAwake
import Derived.Deep.RegionHeld3
import Derived.Deep.QuietTactic
import Derived.BigQuiet
namespace Go.Proofs.YtdclfffjiokenaaDoor
open Go.RowKit
set_option linter.unusedVariables false

theorem makeV_ok {k : Nat} {s : ByteArray} (h : (makeV k s).2 = 0) : 1 ≤ k ∧ k ≤ 3 ∧ s.size ≤ 262144 ∧ makeV k s = (B (Fr.fr (UInt8.ofNat k) s.data.toList), 0) := by
  unfold makeV at h ⊢
  split at h
  · simp at h
  · rename_i h1
    split at h
    · simp at h
    · rename_i h2
      rw [if_neg h1, if_neg h2]
      exact ⟨by omega, by omega, by omega, rfl⟩
theorem makeV_is {k : Nat} {p : List UInt8} (h1 : 1 ≤ k) (h2 : k ≤ 3) (h3 : p.length ≤ 262144) : makeV k (B p) = (B (Fr.fr (UInt8.ofNat k) p), 0) := by
  unfold makeV
  rw [if_neg (by omega), B_size, if_neg (by omega), B_list]
theorem back_text {t : ByteArray} {n : Nat} (hn : n ≤ t.size) (h : (Fr.readL (t.data.toList.drop n)).1 = 0) :
    (makeV (frAt t.data.toList n).k (B (frAt t.data.toList n).p)).1 = t.extract n (frAt t.data.toList n).next := by
  obtain ⟨h1, h2, h3, m, h4⟩ := Fr.readL_is h
  unfold frAt FrV.next
  simp only []
  rw [makeV_is h1 h2 h3]
  apply bytes_ext
  rw [show n + 9 + (Fr.readL (t.data.toList.drop n)).2.2.length = n + ((Fr.readL (t.data.toList.drop n)).2.2.length + 9) from by omega, extract_list, B_list]
  generalize Fr.readL (t.data.toList.drop n) = r at *
  rw [h4, List.take_left' (Fr.fr_length _ _)]
theorem made_at {k : Nat} {s t : ByteArray} (h : (makeV k s).2 = 0) : Fr.readE (t ++ (makeV k s).1 ++ t) t.size = .returned (.tuple #[.agg #[.int .u8 k, .string s, .int .i64 t.size], .int .i64 (t.size + (makeV k s).1.size : Nat), .int .i64 (0 : Nat)]) := by
  obtain ⟨h1, h2, h3, h4⟩ := makeV_ok h
  rw [h4]
  have hr := Fr.readL_fr (k := k) (p := s.data.toList) t.data.toList h1 h2 (by rw [data_len]; exact h3)
  have hd : ((t ++ B (Fr.fr (UInt8.ofNat k) s.data.toList) ++ t).data.toList).drop t.size = Fr.fr (UInt8.ofNat k) s.data.toList ++ t.data.toList := by
    rw [show (t ++ B (Fr.fr (UInt8.ofNat k) s.data.toList) ++ t).data.toList = t.data.toList ++ (Fr.fr (UInt8.ofNat k) s.data.toList ++ t.data.toList) from by simp [B], List.drop_left' (data_len t)]
  have hv : Fr.readV (t ++ B (Fr.fr (UInt8.ofNat k) s.data.toList) ++ t) t.size = (0, k, s.data.toList) := by
    rw [readV_at (by rw [ByteArray.size_append, ByteArray.size_append]; omega), hd, hr]
  rw [Fr.readE_ok hv, B_size, Fr.fr_length, data_len]
  have hb : B s.data.toList = s := by apply bytes_ext; rw [B_list]
  rw [hb, show (t.size : Int) + ((9 + s.size : Nat) : Int) = ((t.size + (s.size + 9) : Nat) : Int) from by omega]
theorem made_one {k : Nat} {s : ByteArray} (h : (makeV k s).2 = 0) : oneV (makeV k s).1 k = (s, true) := by
  obtain ⟨h1, h2, h3, h4⟩ := makeV_ok h
  rw [h4]
  have hr := Fr.readL_fr (k := k) (p := s.data.toList) [] h1 h2 (by rw [data_len]; exact h3)
  rw [List.append_nil] at hr
  have hb : B s.data.toList = s := by apply bytes_ext; rw [B_list]
  unfold oneV
  simp only []
  rw [B_list, hr, B_size, Fr.fr_length, if_pos ⟨rfl, rfl, rfl⟩, hb]
set_option maxRecDepth 100000 in
set_option maxHeartbeats 4000000 in
theorem back_small (k : Nat) (s t : ByteArray) (a : Int) (w : World) (hk : k < 256) (hs : s.size ≤ 20000) (h20 : t.size ≤ 20000) (h1 : -9223372036854775808 ≤ a) (h2 : a ≤ 9223372036854775807) (ht : Tab w) :
    Calls Tryd.prog 9 #[.int .u8 k, .string s, .string t, .int .i64 a] w fun e w' => e = .returned (.bool true) ∧ Below w.heap.size w w' := by
  have HA := Kp.mk awake_any
  have HM := Kp.mk (fun w ht => Make_any k s w hk (by omega) ht)
  have HT := Kp.mk ht
  clear ht
  have t1 : decide (20000 < (s.size : Int)) = false := by rw [decide_eq_false_iff_not]; omega
  have t2 : decide (20000 < (t.size : Int)) = false := by rw [decide_eq_false_iff_not]; omega
  unfold makeE at HM
  have hat := made_at (k := k) (s := s) (t := t)
  have hon := made_one (k := k) (s := s)
  have hbz : (makeV k s).1.size ≤ 30000 := by
    unfold makeV
    split
    · exact Nat.zero_le _
    · split
      · exact Nat.zero_le _
      · simp only []; rw [B_size, Fr.fr_length, data_len]; omega
  generalize makeV k s = r at *
  obtain ⟨b, e0⟩ := r
  simp only [] at HM hat hon hbz
  go_enter Tryd.func9, Tryd.ntmps9
  go_wp2_with fail
  refine (HA.out _ HT.out).mono ?_
  rintro e w1 ⟨rfl, b1⟩
  have B1 := Kp.mk b1
  clear b1
  by_cases he : e0 = 0
  · have hat' := hat he
    have hon' := hon he
    clear hat hon
    subst he
    have HR1 := Kp.mk (fun w hw => Read_any (t ++ b ++ t) t.size w (by rw [ByteArray.size_append, ByteArray.size_append]; omega) (by omega) (by omega) hw)
    rw [hat'] at HR1
    have HO := Kp.mk (fun w hw => One_any b k w (by omega) hk hw)
    rw [hon'] at HO
    simp only [] at HO
    have HS : Kp (∀ w, Calls Tryd.prog 22 #[.agg #[.int .u8 k, .string s, .int .i64 t.size], .agg #[.int .u8 k, .string s, .int .i64 t.size]] w fun e w' => e = .returned (.bool true) ∧ Below w.heap.size w w') := ⟨fun w => by
      have := same_of k s.data.toList t.size k s.data.toList t.size w hk hk
      have hb : B s.data.toList = s := by apply bytes_ext; rw [B_list]
      rw [hb] at this
      simpa using this⟩
    have hc1 : ¬ 9223372036854775807 < t.size + b.size := by omega
    have hc2 : ¬ 9223372036854775807 < (t ++ b).size + t.size := by rw [ByteArray.size_append]; omega
    clear hat' hon'
    go_wp2_with fail
    refine (HM.out _ (HT.out.below B1.out)).mono ?_
    rintro e w2 ⟨rfl, b2⟩
    have B2 := Kp.mk (B1.out.trans (b2.mono B1.out.size))
    clear b2
    go_wp2_with fail
    refine (HR1.out _ (HT.out.below B2.out)).mono ?_
    rintro e w3 ⟨rfl, b3⟩
    have B3 := Kp.mk (B2.out.trans (b3.mono B2.out.size))
    clear b3
    go_wp2_with fail
    have B3' := Kp.mk (B3.out.alloc B3.out.size (.cells #[.int .u8 k, .string s, .int .i64 t.size] 26))
    refine (HO.out _ (HT.out.below B3'.out)).mono ?_
    rintro e w4 ⟨rfl, b4⟩
    have hblk := (b4.block _ (by simp)).trans (heap_alloc_new w3 (.cells #[.int .u8 k, .string s, .int .i64 t.size] 26))
    obtain ⟨⟨c0, c1, c2⟩, _⟩ := cells3 hblk
    have B4 := Kp.mk (B3'.out.trans (b4.mono B3'.out.size))
    clear b4 hblk
    go_wp2_with fail
    refine (HS.out _).mono ?_
    rintro e w6 ⟨rfl, b6⟩
    have B6 := Kp.mk (B4.out.trans (b6.mono B4.out.size))
    clear b6
    have HRT := Kp.mk (Read_any t a w6 (by omega) h1 h2 (HT.out.below B6.out))
    by_cases ho : (Fr.readV t a).1 = 0
    · have hin : ¬ (a < 0 ∨ (t.size : Int) < a) := by
        intro hc
        rw [readV_out hc] at ho
        cases ho
      obtain ⟨n, rfl⟩ := Int.eq_ofNat_of_zero_le (show 0 ≤ a by omega)
      have hnt : n ≤ t.size := by omega
      rw [readV_at hnt] at ho
      rw [readE_at_ok hnt ho] at HRT
      have htx := back_text hnt ho
      have hx := frAt_next ho
      rw [data_len] at hx
      have hkk : (frAt t.data.toList n).k < 256 := Fr.readL_kind _
      have hpz : (frAt t.data.toList n).p.length ≤ t.size := by unfold FrV.next at hx; omega
      have hxa : (frAt t.data.toList n).a = n := rfl
      generalize frAt t.data.toList n = x at *
      obtain ⟨fk, fp, fa⟩ := x
      simp only [] at hxa
      subst hxa
      generalize hN : (⟨fk, fp, fa⟩ : FrV).next = N at *
      have HMd := Kp.mk (fun w hw => made_any fk (B fp) w hkk (by rw [B_size]; simp only [] at hpz; omega) hw)
      simp only [] at htx HMd
      rw [htx] at HMd
      unfold FrV.v at HRT
      simp only [] at HRT
      go_wp2_with fail
      refine HRT.out.mono ?_
      rintro e wb ⟨rfl, bb⟩
      have BB := Kp.mk (B6.out.trans (bb.mono B6.out.size))
      have hbz := BB.out.size
      have TB := Kp.mk (HT.out.below BB.out)
      have HMe : Kp (Calls Tryd.prog 26 #[.int .u8 fk, .string (B fp)] (wb.alloc (.cells #[.int .u8 fk, .string (B fp), .int .i64 fa] 26)).drew fun e w' => e = .returned (.string (t.extract fa N)) ∧ Below w.heap.size w w' ∧ w'.cell? ⟨wb.heap.size, 0, none⟩ = some (.int .u8 fk) ∧ w'.cell? ⟨wb.heap.size, 1, none⟩ = some (.string (B fp)) ∧ w'.cell? ⟨wb.heap.size, 2, none⟩ = some (.int .i64 fa)) := ⟨by
        have hb0 : Below w.heap.size w (wb.alloc (.cells #[.int .u8 fk, .string (B fp), .int .i64 fa] 26)).drew := (BB.out.alloc BB.out.size _).drew
        refine (HMd.out _ (HT.out.below hb0)).mono ?_
        rintro e w' ⟨he, hw⟩
        have hblk := (hw.block wb.heap.size (by simp [World.drew])).trans (heap_alloc_new wb (.cells #[.int .u8 fk, .string (B fp), .int .i64 fa] 26))
        exact ⟨he, hb0.trans (hw.mono hb0.size), (cells3 hblk).1⟩⟩
      have hz1 : (0 : Int) ≤ (fa : Int) := by omega
      have hz2 : (fa : Int) ≤ (N : Int) := by omega
      have hz3 : (N : Int) ≤ (t.size : Int) := by omega
      have hz4 : (fa : Int).toNat = fa := by omega
      have hz5 : (N : Int).toNat = N := by omega
      clear bb HMd htx hpz hkk
      go_wp2
      go_region_held3 (fun w' => w'.cell? ⟨wb.heap.size, 0, none⟩ = some (.int .u8 fk) ∧ w'.cell? ⟨wb.heap.size, 1, none⟩ = some (.string (B fp)) ∧ w'.cell? ⟨wb.heap.size, 2, none⟩ = some (.int .i64 fa)) (go_keep)
        (first
          | (go_at_call 26; refine HMe.out.mono ?_; rintro e w5 ⟨rfl, b5, k0, k1, k2⟩))
      all_goals trace_state
      all_goals go_wp2
      all_goals go_ret
      all_goals exact ⟨by simp, b5⟩
    · have hbad := readV_bad ho
      generalize hr0 : (Fr.readV t a).1 = r0 at ho hbad
      rw [Fr.readE_bad ho hbad] at HRT
      unfold Fr.badE at HRT
      have tn : ((r0 : Int) != 0) = true := by simp; omega
      go_wp2_with fail
      refine HRT.out.mono ?_
      rintro e wb ⟨rfl, bb⟩
      have BB := Kp.mk (B6.out.trans (bb.mono B6.out.size))
      have hbz := BB.out.size
      clear bb
      go_wp2
      go_quiet (fail)
      go_wp2
      go_ret
      exact ⟨rfl, (BB.out.alloc hbz _).trans (belowN _ _ _)⟩
  · have te : ((e0 : Int) == 0) = false := by simp; omega
    clear hat hon
    go_wp2_with fail
    refine (HM.out _ (HT.out.below B1.out)).mono ?_
    rintro e w2 ⟨rfl, b2⟩
    have B2 := Kp.mk (B1.out.trans (b2.mono B1.out.size))
    clear b2
    have HRT := Kp.mk (Read_any t a w2 (by omega) h1 h2 (HT.out.below B2.out))
    by_cases ho : (Fr.readV t a).1 = 0
    · have hin : ¬ (a < 0 ∨ (t.size : Int) < a) := by
        intro hc
        rw [readV_out hc] at ho
        cases ho
      obtain ⟨n, rfl⟩ := Int.eq_ofNat_of_zero_le (show 0 ≤ a by omega)
      have hnt : n ≤ t.size := by omega
      rw [readV_at hnt] at ho
      rw [readE_at_ok hnt ho] at HRT
      have htx := back_text hnt ho
      have hx := frAt_next ho
      rw [data_len] at hx
      have hkk : (frAt t.data.toList n).k < 256 := Fr.readL_kind _
      have hpz : (frAt t.data.toList n).p.length ≤ t.size := by unfold FrV.next at hx; omega
      have hxa : (frAt t.data.toList n).a = n := rfl
      generalize frAt t.data.toList n = x at *
      obtain ⟨fk, fp, fa⟩ := x
      simp only [] at hxa
      subst hxa
      generalize hN : (⟨fk, fp, fa⟩ : FrV).next = N at *
      have HMd := Kp.mk (fun w hw => made_any fk (B fp) w hkk (by rw [B_size]; simp only [] at hpz; omega) hw)
      simp only [] at htx HMd
      rw [htx] at HMd
      unfold FrV.v at HRT
      simp only [] at HRT
      go_wp2_with fail
      refine HRT.out.mono ?_
      rintro e wb ⟨rfl, bb⟩
      have BB := Kp.mk (B2.out.trans (bb.mono B2.out.size))
      have hbz := BB.out.size
      have TB := Kp.mk (HT.out.below BB.out)
      have HMe : Kp (Calls Tryd.prog 26 #[.int .u8 fk, .string (B fp)] (wb.alloc (.cells #[.int .u8 fk, .string (B fp), .int .i64 fa] 26)).drew fun e w' => e = .returned (.string (t.extract fa N)) ∧ Below w.heap.size w w' ∧ w'.cell? ⟨wb.heap.size, 0, none⟩ = some (.int .u8 fk) ∧ w'.cell? ⟨wb.heap.size, 1, none⟩ = some (.string (B fp)) ∧ w'.cell? ⟨wb.heap.size, 2, none⟩ = some (.int .i64 fa)) := ⟨by
        have hb0 : Below w.heap.size w (wb.alloc (.cells #[.int .u8 fk, .string (B fp), .int .i64 fa] 26)).drew := (BB.out.alloc BB.out.size _).drew
        refine (HMd.out _ (HT.out.below hb0)).mono ?_
        rintro e w' ⟨he, hw⟩
        have hblk := (hw.block wb.heap.size (by simp [World.drew])).trans (heap_alloc_new wb (.cells #[.int .u8 fk, .string (B fp), .int .i64 fa] 26))
        exact ⟨he, hb0.trans (hw.mono hb0.size), (cells3 hblk).1⟩⟩
      have hz1 : (0 : Int) ≤ (fa : Int) := by omega
      have hz2 : (fa : Int) ≤ (N : Int) := by omega
      have hz3 : (N : Int) ≤ (t.size : Int) := by omega
      have hz4 : (fa : Int).toNat = fa := by omega
      have hz5 : (N : Int).toNat = N := by omega
      clear bb HMd htx hpz hkk
      go_wp2
      go_region_held3 (fun w' => w'.cell? ⟨wb.heap.size, 0, none⟩ = some (.int .u8 fk) ∧ w'.cell? ⟨wb.heap.size, 1, none⟩ = some (.string (B fp)) ∧ w'.cell? ⟨wb.heap.size, 2, none⟩ = some (.int .i64 fa)) (go_keep)
        (first
          | (go_at_call 26; refine HMe.out.mono ?_; rintro e w5 ⟨rfl, b5, k0, k1, k2⟩))
      all_goals trace_state
      all_goals go_wp2
      all_goals go_ret
      all_goals exact ⟨by simp, b5⟩
    · have hbad := readV_bad ho
      generalize hr0 : (Fr.readV t a).1 = r0 at ho hbad
      rw [Fr.readE_bad ho hbad] at HRT
      unfold Fr.badE at HRT
      have tn : ((r0 : Int) != 0) = true := by simp; omega
      go_wp2_with fail
      refine HRT.out.mono ?_
      rintro e wb ⟨rfl, bb⟩
      have BB := Kp.mk (B2.out.trans (bb.mono B2.out.size))
      have hbz := BB.out.size
      clear bb
      go_wp2
      go_quiet (fail)
      go_wp2
      go_ret
      exact ⟨rfl, (BB.out.alloc hbz _).trans (belowN _ _ _)⟩
theorem back_long (k : Nat) (s t : ByteArray) (a : Int) (w : World) (hs : 20000 < s.size ∨ 20000 < t.size) (ht : Tab w) :
    Calls Tryd.prog 9 #[.int .u8 k, .string s, .string t, .int .i64 a] w fun e w' => e = .returned (.bool true) ∧ Below w.heap.size w w' := by
  have HA := Kp.mk (awake_any w ht)
  by_cases hs' : 20000 < s.size
  · have h1 : decide (20000 < (s.size : Int)) = true := by rw [decide_eq_true_eq]; omega
    go_enter Tryd.func9, Tryd.ntmps9
    go_wp2_with fail
    refine HA.out.mono ?_
    rintro e w1 ⟨rfl, b1⟩
    have B1 := Kp.mk b1
    clear b1
    go_wp2
    go_ret
    exact ⟨rfl, B1.out⟩
  · have h1 : decide (20000 < (s.size : Int)) = false := by rw [decide_eq_false_iff_not]; omega
    have h2 : decide (20000 < (t.size : Int)) = true := by rw [decide_eq_true_eq]; omega
    go_enter Tryd.func9, Tryd.ntmps9
    go_wp2_with fail
    refine HA.out.mono ?_
    rintro e w1 ⟨rfl, b1⟩
    have B1 := Kp.mk b1
    clear b1
    go_wp2
    go_ret
    exact ⟨rfl, B1.out⟩
theorem walkFrameBack (w : World) (k : Int) (hk : (Lit.int .u8 k).wf = true) (s : ByteArray) (hs : s.size ≤ maxLen) (t : ByteArray) (hs2 : t.size ≤ maxLen) (n : Int) (hn : (Lit.int .i64 n).wf = true) (hL : Tab w) :
    Calls Tryd.prog 9 #[.int .u8 k, .string s, .string t, .int .i64 n] w fun e w' => e = .returned (.bool true) ∧ Below w.heap.size w w' := by
  obtain ⟨k, rfl, h1⟩ := u8_nat hk
  by_cases h : 20000 < s.size ∨ 20000 < t.size
  · exact back_long k s t n w h hL
  · exact back_small k s t n w h1 (by omega) (by omega) (i64_int hn).1 (i64_int hn).2 hL
end Go.Proofs.YtdclfffjiokenaaDoor
