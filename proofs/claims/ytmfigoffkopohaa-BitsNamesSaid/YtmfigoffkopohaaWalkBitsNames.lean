/- The walk of BitsNames: it returns true, and leaves what was there. -/
import Derived.Test.YtmfigoffkopohaaLawAsk
namespace Go.Proofs.Ytmfigoffkopohaa
open Go.RowKit
set_option linter.unusedVariables false

theorem nilVarint (n : Int) (w : World) : Calls Try.prog 41 #[.pointer none, .int .u64 n] w fun r w' => r = .returned (.int .u64 0) ∧ w = w' := by
  go_enter Try.func41, Try.ntmps41
  go_wp2
  go_ret
  exact ⟨rfl, rfl⟩
theorem nilZag (a b : Int) (w : World) : Calls Try.prog 39 #[.pointer none, .int .i64 a, .int .i64 b] w fun r w' => r = .returned (.int .i64 0) ∧ w = w' := by
  go_enter Try.func39, Try.ntmps39
  go_wp2
  go_ret
  exact ⟨rfl, rfl⟩
theorem nilFixed (a : Int) (w : World) : Calls Try.prog 42 #[.pointer none, .int .i64 a] w fun r w' => r = .returned (.int .u64 0) ∧ w = w' := by
  go_enter Try.func42, Try.ntmps42
  go_wp2
  go_ret
  exact ⟨rfl, rfl⟩
theorem nilRaw (a : Int) (w : World) : Calls Try.prog 40 #[.pointer none, .int .i64 a] w fun r w' => r = .returned (.string ⟨#[]⟩) ∧ w = w' := by
  go_enter Try.func40, Try.ntmps40
  go_wp2
  go_ret
  exact ⟨rfl, rfl⟩
theorem nilByte (w : World) : Calls Try.prog 37 #[.pointer none] w fun r w' => r = .returned (.int .u8 0) ∧ w = w' := by
  go_enter Try.func37, Try.ntmps37
  go_wp2_with fail
  refine (nilRaw _ _).mono ?_
  rintro e w' ⟨rfl, rfl⟩
  go_wp2
  go_ret
  exact ⟨rfl, rfl⟩
theorem nilText (a : Int) (w : World) : Calls Try.prog 36 #[.pointer none, .int .i64 a] w fun r w' => r = .returned (.string ⟨#[]⟩) ∧ w = w' := by
  go_enter Try.func36, Try.ntmps36
  go_wp2
  go_ret
  exact ⟨rfl, rfl⟩
theorem nilLeft (w : World) : Calls Try.prog 38 #[.pointer none] w fun r w' => r = .returned (.int .i64 0) ∧ w = w' := by
  go_enter Try.func38, Try.ntmps38
  go_wp2
  go_ret
  exact ⟨rfl, rfl⟩
theorem nilAt (w : World) : Calls Try.prog 33 #[.pointer none] w fun r w' => r = .returned (.int .i64 0) ∧ w = w' := by
  go_enter Try.func33, Try.ntmps33
  go_wp2
  go_ret
  exact ⟨rfl, rfl⟩
theorem nilErr (w : World) : Calls Try.prog 34 #[.pointer none] w fun r w' => r = .returned (.int .i64 2) ∧ w = w' := by
  go_enter Try.func34, Try.ntmps34
  go_wp2
  go_ret
  exact ⟨rfl, rfl⟩
theorem nilEnd (w : World) : Calls Try.prog 35 #[.pointer none] w fun r w' => r = .returned (.int .i64 2) ∧ w = w' := by
  go_enter Try.func35, Try.ntmps35
  go_wp2_with fail
  refine (nilErr _).mono ?_
  rintro e w' ⟨rfl, rfl⟩
  go_wp2
  go_ret
  exact ⟨rfl, rfl⟩
theorem Fixed_at (s : ByteArray) (p z : Int) (w : World) (a b c : Int) (hs : s.size ≤ 140737488351232) (h1 : -9223372036854775808 ≤ p) (h2 : p ≤ 9223372036854775807) (r : Nat × Nat × Nat) (hr : Var.fixI s.data.toList p z = r) (ha : (r.1 : Int) = a) (hb : (r.2.1 : Int) = b) (hc : (r.2.2 : Int) = c) :
    Calls Try.prog 27 #[.string s, .int .i64 p, .int .i64 z] w fun e w' => e = .returned (.tuple #[.int .u64 a, .int .i64 b, .int .i64 c]) ∧ w = w' :=
  (Fixed_any s p z w hs h1 h2).mono fun e w' ⟨he, hw⟩ => ⟨by rw [he, hr, ← ha, ← hb, ← hc]; rfl, hw⟩
theorem len_v {n k : Nat} (h1 : n < 128 ^ (k + 1)) (h2 : k = 0 ∨ 128 ^ k ≤ n) (v : Int) (hv : ((k + 1 : Nat) : Int) = v) : ((Var.vb n).length : Int) = v := by rw [Var.vb_len_eq h1 h2, hv]
theorem Rd.below' {w w' : World} {g : Nat} {s : ByteArray} {p e : Nat} (h : Rd w g s p e) (hb : Below w.heap.size w w') : Rd w' g s p e := by
  unfold Rd at *
  rw [hb.block g (lt_of_block h)]; exact h
theorem Rd.grown' {w w' : World} {g x : Nat} {s : ByteArray} {p e : Nat} (h : Rd w g s p e) (hg : w.grownBy w' (some x)) (hne : g ≠ x) : Rd w' g s p e := by
  unfold Rd at *
  rw [hg.block g (lt_of_block h) (fun h => hne (Option.some.inj h))]; exact h
theorem B_data (t : ByteArray) : B t.data.toList = t := bytes_ext (B_list _)
theorem Text_at (g : Nat) (s : ByteArray) (p e : Nat) (most : Int) (w : World) (h : Rd w g s p e) (hp : p ≤ s.size) (hs : s.size ≤ 140737488351232) (hm1 : -9223372036854775808 ≤ most) (hm2 : most ≤ 9223372036854775807) (t : ByteArray) (p' e' : Nat) (hv : Var.rText s.data.toList p e most = (t.data.toList, p', e')) :
    Calls Try.prog 36 #[.pointer (some ⟨g, 0, none⟩), .int .i64 most] w fun r w' => r = .returned (.string t) ∧ Rd w' g s p' e' ∧ w.grownBy w' (some g) :=
  (Text_any g s p e most w h hp hs hm1 hm2).mono fun r w' ⟨a, b, c⟩ => by rw [hv] at a b; exact ⟨by rw [a, B_data], b, c⟩
theorem Raw_at (g : Nat) (s : ByteArray) (p e : Nat) (n : Int) (w : World) (h : Rd w g s p e) (hp : p ≤ s.size) (hs : s.size ≤ 140737488351232) (t : ByteArray) (p' e' : Nat) (hv : Var.rRaw s.data.toList p e n = (t.data.toList, p', e')) :
    Calls Try.prog 40 #[.pointer (some ⟨g, 0, none⟩), .int .i64 n] w fun r w' => r = .returned (.string t) ∧ Rd w' g s p' e' ∧ w.grownBy w' (some g) :=
  (Raw_any g s p e n w h hp hs).mono fun r w' ⟨a, b, c⟩ => by rw [hv] at a b; exact ⟨by rw [a, B_data], b, c⟩
theorem Byte_at (g : Nat) (s : ByteArray) (p e : Nat) (w : World) (h : Rd w g s p e) (hp : p ≤ s.size) (hs : s.size ≤ 140737488351232) (b : Int) (l : List UInt8) (p' e' : Nat) (hv : Var.rRaw s.data.toList p e 1 = (l, p', e')) (hb : (((l.headD 0).toNat : Nat) : Int) = b) :
    Calls Try.prog 37 #[.pointer (some ⟨g, 0, none⟩)] w fun r w' => r = .returned (.int .u8 b) ∧ Rd w' g s p' e' ∧ w.grownBy w' (some g) :=
  (Byte_any g s p e w h hp hs).mono fun r w' ⟨a, k, c⟩ => by rw [hv] at a k; exact ⟨by rw [a, ← hb], k, c⟩
theorem Zag_at (g : Nat) (s : ByteArray) (p e : Nat) (x y : Int) (w : World) (h : Rd w g s p e) (hp : p ≤ s.size) (hs : s.size ≤ 140737488351232) (z : Int) (p' e' : Nat) (hv : Var.rZag s.data.toList p e x y = (z, p', e')) :
    Calls Try.prog 39 #[.pointer (some ⟨g, 0, none⟩), .int .i64 x, .int .i64 y] w fun r w' => r = .returned (.int .i64 z) ∧ Rd w' g s p' e' ∧ w.grownBy w' (some g) :=
  (RZag_any g s p e x y w h hp hs).mono fun r w' ⟨a, b, c⟩ => by rw [hv] at a b; exact ⟨a, b, c⟩
theorem Err_at (g : Nat) (s : ByteArray) (p e : Nat) (w : World) (h : Rd w g s p e) (v : Int) (hv : (e : Int) = v) :
    Calls Try.prog 34 #[.pointer (some ⟨g, 0, none⟩)] w fun r w' => r = .returned (.int .i64 v) ∧ w = w' := by
  subst hv; exact Err_any g s p e w h
theorem At_at (g : Nat) (s : ByteArray) (p e : Nat) (w : World) (h : Rd w g s p e) (v : Int) (hv : (p : Int) = v) :
    Calls Try.prog 33 #[.pointer (some ⟨g, 0, none⟩)] w fun r w' => r = .returned (.int .i64 v) ∧ w = w' := by
  subst hv; exact At_any g s p e w h
/-- The table of examples, as cells. -/
def tabCells : Array Value := #[.string ⟨#[]⟩, .int .u64 0, .int .i64 0, .int .i64 8, .string ⟨#[128]⟩, .int .u64 0, .int .i64 0, .int .i64 8, .string ⟨#[255, 255, 255, 255, 255, 255, 255, 255, 255]⟩, .int .u64 0, .int .i64 0, .int .i64 8, .string ⟨#[255, 255, 255, 255, 255, 255, 255, 255, 255, 2]⟩, .int .u64 0, .int .i64 0, .int .i64 4, .string ⟨#[255, 255, 255, 255, 255, 255, 255, 255, 255, 255]⟩, .int .u64 0, .int .i64 0, .int .i64 4, .string ⟨#[255, 255, 255, 255, 255, 255, 255, 255, 255, 129]⟩, .int .u64 0, .int .i64 0, .int .i64 4, .string ⟨#[255, 255, 255, 255, 255, 255, 255, 255, 255, 1]⟩, .int .u64 18446744073709551615, .int .i64 10, .int .i64 0, .string ⟨#[128, 128, 128, 128, 128, 128, 128, 128, 128, 0]⟩, .int .u64 0, .int .i64 10, .int .i64 0, .string ⟨#[127, 120]⟩, .int .u64 127, .int .i64 1, .int .i64 0, .string ⟨#[128, 1]⟩, .int .u64 128, .int .i64 2, .int .i64 0]
def Row (s : ByteArray) (n kk e : Nat) : Prop := Var.uvI ((⟨#[97, 98]⟩ : ByteArray) ++ s).data.toList (2 : Nat) = (n, if e = 0 then 2 + kk else 0, e) ∧ s.size ≤ 20 ∧ n < 18446744073709551616 ∧ kk ≤ 10 ∧ e ≤ 8
theorem tab_at (w : World) (g : Nat) (h : w.heap[g]? = some (.cells tabCells 56 (0, 0))) (k : Nat) (hk : k < 10) : ∃ (s : ByteArray) (n kk e : Nat), w.cell? ⟨g, k * 4, none⟩ = some (.string s) ∧ w.cell? ⟨g, k * 4 + 1, none⟩ = some (.int .u64 n) ∧ w.cell? ⟨g, k * 4 + 2, none⟩ = some (.int .i64 kk) ∧ w.cell? ⟨g, k * 4 + 3, none⟩ = some (.int .i64 e) ∧ Row s n kk e := by
  have hc : ∀ j, w.cell? ⟨g, j, none⟩ = tabCells[j]? := fun j => cell_of_row w g j tabCells 56 (0, 0) h
  simp only [hc]
  match k, hk with
  | 0, _ => exact ⟨⟨#[]⟩, 0, 0, 8, rfl, rfl, rfl, rfl, by decide +kernel, by decide, by decide, by decide, by decide⟩
  | 1, _ => exact ⟨⟨#[128]⟩, 0, 0, 8, rfl, rfl, rfl, rfl, by decide +kernel, by decide, by decide, by decide, by decide⟩
  | 2, _ => exact ⟨⟨#[255, 255, 255, 255, 255, 255, 255, 255, 255]⟩, 0, 0, 8, rfl, rfl, rfl, rfl, by decide +kernel, by decide, by decide, by decide, by decide⟩
  | 3, _ => exact ⟨⟨#[255, 255, 255, 255, 255, 255, 255, 255, 255, 2]⟩, 0, 0, 4, rfl, rfl, rfl, rfl, by decide +kernel, by decide, by decide, by decide, by decide⟩
  | 4, _ => exact ⟨⟨#[255, 255, 255, 255, 255, 255, 255, 255, 255, 255]⟩, 0, 0, 4, rfl, rfl, rfl, rfl, by decide +kernel, by decide, by decide, by decide, by decide⟩
  | 5, _ => exact ⟨⟨#[255, 255, 255, 255, 255, 255, 255, 255, 255, 129]⟩, 0, 0, 4, rfl, rfl, rfl, rfl, by decide +kernel, by decide, by decide, by decide, by decide⟩
  | 6, _ => exact ⟨⟨#[255, 255, 255, 255, 255, 255, 255, 255, 255, 1]⟩, 18446744073709551615, 10, 0, rfl, rfl, rfl, rfl, by decide +kernel, by decide, by decide, by decide, by decide⟩
  | 7, _ => exact ⟨⟨#[128, 128, 128, 128, 128, 128, 128, 128, 128, 0]⟩, 0, 10, 0, rfl, rfl, rfl, rfl, by decide +kernel, by decide, by decide, by decide, by decide⟩
  | 8, _ => exact ⟨⟨#[127, 120]⟩, 127, 1, 0, rfl, rfl, rfl, rfl, by decide +kernel, by decide, by decide, by decide, by decide⟩
  | 9, _ => exact ⟨⟨#[128, 1]⟩, 128, 2, 0, rfl, rfl, rfl, rfl, by decide +kernel, by decide, by decide, by decide, by decide⟩
set_option maxRecDepth 100000 in
set_option maxHeartbeats 4000000 in
theorem walkBitsNames (w : World) : Calls Try.prog 9 #[] w fun e w' => e = .returned (.bool true) ∧ Below w.heap.size w w' := by
  go_enter Try.func9, Try.ntmps9
  go_wp2_with fail
  refine (awake_any _).mono ?_
  rintro e w1 ⟨rfl, hb1⟩
  have HB1 := Kp.mk hb1
  clear hb1
  go_wp2_with fail
  refine (Len_at 0 1 _ (by decide) (by decide) (len_v (n := 0) (k := 0) (by decide) (.inl rfl) _ rfl)).mono ?_
  rintro e w' ⟨rfl, rfl⟩
  go_wp2_with fail
  refine (Len_at 127 1 _ (by decide) (by decide) (len_v (n := 127) (k := 0) (by decide) (.inl rfl) _ rfl)).mono ?_
  rintro e w' ⟨rfl, rfl⟩
  go_wp2_with fail
  refine (Len_at 128 2 _ (by decide) (by decide) (len_v (n := 128) (k := 1) (by decide) (.inr (by decide)) _ rfl)).mono ?_
  rintro e w' ⟨rfl, rfl⟩
  go_wp2_with fail
  refine (Len_at 9223372036854775808 10 _ (by decide) (by decide) (len_v (n := 9223372036854775808) (k := 9) (by decide) (.inr (by decide)) _ rfl)).mono ?_
  rintro e w' ⟨rfl, rfl⟩
  go_wp2_with fail
  refine (Len_at 18446744073709551615 10 _ (by decide) (by decide) (len_v (n := 18446744073709551615) (k := 9) (by decide) (.inr (by decide)) _ rfl)).mono ?_
  rintro e w' ⟨rfl, rfl⟩
  go_wp2_with fail
  have HT : Kp ((w1.alloc (.cells tabCells 56)).heap[w1.heap.size]? = some (.cells tabCells 56 (0, 0))) := ⟨heap_alloc_new w1 _⟩
  have HB2 : Kp (Below w.heap.size w (w1.alloc (.cells tabCells 56))) := ⟨HB1.out.trans ((Below.refl _ _).alloc HB1.out.size _)⟩
  have hg : Kp (w.heap.size ≤ w1.heap.size) := ⟨HB1.out.size⟩
  generalize w1.heap.size = g at HT hg ⊢
  go_loopw [64] (fun i wr => ∃ k : Nat, i = .int .i64 k ∧ k ≤ 10 ∧ wr.heap[g]? = some (.cells tabCells 56 (0, 0)) ∧ Below w.heap.size w wr) (fun i _ => 10 - (intOf i).toNat)
  case atStart => exact ⟨0, rfl, by omega, HT.out, HB2.out⟩
  case round =>
    obtain ⟨k, rfl, hk, ht, hb⟩ := hrel
    have HT := Kp.mk ht
    have HB := Kp.mk hb
    by_cases hkl : k < 10
    · obtain ⟨s, n, kk, e, c0, c1, c2, c3, h1, h2, h3, h4, h5⟩ := tab_at wr g ht k hkl
      have HU := Kp.mk h1
      have HL : Kp (∀ o, (wr.alloc o).heap[g]? = some (.cells tabCells 56 (0, 0))) := ⟨fun o => by rw [Below.heap_alloc wr o g (lt_of_block ht)]; exact ht⟩
      have HBo : Kp (∀ o, Below w.heap.size w (wr.alloc o)) := ⟨fun o => hb.trans ((Below.refl _ _).alloc hb.size _)⟩
      have hsz : ((⟨#[97, 98]⟩ : ByteArray) ++ s).size ≤ 140737488351232 := by rw [ByteArray.size_append]; show 2 + s.size ≤ _; omega
      clear h1 ht hb
      go_wp2_with fail
      by_cases he : e = 0
      · subst he
        refine (Uvarint_at _ 2 _ n ((2 + kk : Nat) : Int) 0 hsz (by decide) (by decide) _ HU.out rfl rfl rfl).mono ?_
        rintro e w' ⟨rfl, rfl⟩
        go_wp2
        go_roundw
        case rel => exact ⟨k + 1, by go_num, by omega, HL.out _, HBo.out _⟩
        case measure => simp [intOf]; omega
      · have t0 : ((e : Int) == 0) = false := by rw [beq_eq_false_iff_ne]; omega
        have t1 : ((e : Int) != 0) = true := by rw [bne_iff_ne]; omega
        refine (Uvarint_at _ 2 _ n 0 e hsz (by decide) (by decide) _ HU.out rfl (by rw [if_neg he]; rfl) rfl).mono ?_
        rintro e w' ⟨rfl, rfl⟩
        go_wp2
        go_roundw
        case rel => exact ⟨k + 1, by go_num, by omega, HL.out _, HBo.out _⟩
        case measure => simp [intOf]; omega
    · obtain rfl : k = 10 := by omega
      clear HT ht hg hk hkl
      have HB := Kp.mk hb
      clear hb
      go_wp2_with fail
      refine (Uvarint_at _ 2 _ 0 0 1 (by decide) (by decide) (by decide) _ (by decide +kernel : _ = (0, 0, 1)) rfl rfl rfl).mono ?_
      rintro e w' ⟨rfl, rfl⟩
      go_wp2_with fail
      refine (Uvarint_at _ (-1) _ 0 0 1 (by decide) (by decide) (by decide) _ (by decide +kernel : _ = (0, 0, 1)) rfl rfl rfl).mono ?_
      rintro e w' ⟨rfl, rfl⟩
      go_wp2_with fail
      refine (Fixed_at _ 0 5 _ 0 0 1 (by decide) (by decide) (by decide) _ (by decide +kernel : _ = (0, 0, 1)) rfl rfl rfl).mono ?_
      rintro e w' ⟨rfl, rfl⟩
      go_wp2_with fail
      refine (Fixed_at _ 9 4 _ 0 0 1 (by decide) (by decide) (by decide) _ (by decide +kernel : _ = (0, 0, 1)) rfl rfl rfl).mono ?_
      rintro e w' ⟨rfl, rfl⟩
      go_wp2_with fail
      refine (Fixed_at _ 5 4 _ 0 0 8 (by decide) (by decide) (by decide) _ (by decide +kernel : _ = (0, 0, 8)) rfl rfl rfl).mono ?_
      rintro e w' ⟨rfl, rfl⟩
      go_wp2_with fail
      refine (Fixed_at _ 4 4 _ 1751606885 8 0 (by decide) (by decide) (by decide) _ (by decide +kernel : _ = (1751606885, 8, 0)) rfl rfl rfl).mono ?_
      rintro e w' ⟨rfl, rfl⟩
      go_wp2_with fail
      refine (New_any _ _).mono ?_
      rintro e x1 ⟨rfl, hr, hb⟩
      have HRr := Kp.mk hr
      have hszr : Kp (w.heap.size ≤ wr.heap.size ∧ wr.heap.size < x1.heap.size) := ⟨HB.out.size, hr.lt⟩
      replace HB : Kp (Below w.heap.size w x1) := ⟨HB.out.trans (hb.mono HB.out.size)⟩
      clear hr hb
      obtain ⟨gr, hgr⟩ : ∃ g, wr.heap.size = g := ⟨_, rfl⟩
      rw [hgr] at HRr hszr ⊢
      go_wp2_with fail
      refine (Text_at _ _ 0 0 2 _ HRr.out (by decide) (by decide) (by decide) (by decide) ⟨#[]⟩ 0 40 (by decide +kernel)).mono ?_
      rintro e x2 ⟨rfl, hr, hgr⟩
      have HRn := Kp.mk hr
      replace HRr := HRn
      clear HRn
      replace HB : Kp (Below w.heap.size w x2) := ⟨HB.out.grown hgr HB.out.size (fun j hj => by have := Option.some.inj hj; have := hszr.out.1; omega)⟩
      clear hr hgr
      go_wp2_with fail
      refine (Err_at _ _ 0 40 _ HRr.out 40 rfl).mono ?_
      rintro e w' ⟨rfl, rfl⟩
      go_wp2_with fail
      refine (At_at _ _ 0 40 _ HRr.out 0 rfl).mono ?_
      rintro e w' ⟨rfl, rfl⟩
      go_wp2_with fail
      refine (Byte_at _ _ 0 40 _ HRr.out (by decide) (by decide) 0 [] 0 40 (by decide +kernel) rfl).mono ?_
      rintro e x3 ⟨rfl, hr, hgr⟩
      have HRn := Kp.mk hr
      replace HRr := HRn
      clear HRn
      replace HB : Kp (Below w.heap.size w x3) := ⟨HB.out.grown hgr HB.out.size (fun j hj => by have := Option.some.inj hj; have := hszr.out.1; omega)⟩
      clear hr hgr
      go_wp2_with fail
      have HEnd := Kp.mk (End_any _ _ 0 40 _ HRr.out (by decide) (by decide))
      rw [show (((if (40 : Nat) = 0 ∧ 0 < (⟨#[3, 97, 98, 99]⟩ : ByteArray).size then 4 else 40 : Nat)) : Int) = 40 from rfl] at HEnd
      refine HEnd.out.mono ?_
      rintro e x4 ⟨rfl, hw⟩
      replace HRr : Kp (Rd x4 gr ⟨#[3, 97, 98, 99]⟩ 0 40) := ⟨by rcases hw with rfl | rfl <;> exact HRr.out⟩
      replace HB : Kp (Below w.heap.size w x4) := ⟨by rcases hw with rfl | rfl; exact HB.out; exact HB.out.drew⟩
      clear hw HEnd
      have HLeft := Kp.mk (Left_any _ _ 0 40 _ HRr.out (by decide) (by decide))
      rw [show ((((⟨#[3, 97, 98, 99]⟩ : ByteArray).size - 0 : Nat)) : Int) = 4 from rfl] at HLeft
      go_wp2_with fail
      refine HLeft.out.mono ?_
      rintro e x' ⟨rfl, hw⟩
      obtain ⟨x5, hx⟩ : ∃ x, x4.drew = x := ⟨_, rfl⟩
      replace HB : Kp (Below w.heap.size w x5) := ⟨by rw [← hx]; exact HB.out.drew⟩
      rw [← hw, hx]
      clear hw hx HLeft HRr hszr
      go_wp2_with fail
      refine (New_any _ _).mono ?_
      rintro e x6 ⟨rfl, hr, hb⟩
      have HRt := Kp.mk hr
      have hszt : Kp (w.heap.size ≤ x5.heap.size ∧ x5.heap.size < x6.heap.size) := ⟨HB.out.size, hr.lt⟩
      replace HB : Kp (Below w.heap.size w x6) := ⟨HB.out.trans (hb.mono HB.out.size)⟩
      clear hr hb
      obtain ⟨gt, hgt⟩ : ∃ g, x5.heap.size = g := ⟨_, rfl⟩
      rw [hgt] at HRt hszt ⊢
      go_wp2_with fail
      refine (New_any _ _).mono ?_
      rintro e x7 ⟨rfl, hr, hb⟩
      have HRu := Kp.mk hr
      replace HRt := Kp.mk (HRt.out.below' hb)
      have hszu : Kp (w.heap.size ≤ x6.heap.size ∧ x6.heap.size < x7.heap.size) := ⟨HB.out.size, hr.lt⟩
      replace HB : Kp (Below w.heap.size w x7) := ⟨HB.out.trans (hb.mono HB.out.size)⟩
      clear hr hb
      obtain ⟨gu, hgu⟩ : ∃ g, x6.heap.size = g := ⟨_, rfl⟩
      rw [hgu] at HRu hszu ⊢
      go_wp2_with fail
      refine (New_any _ _).mono ?_
      rintro e x8 ⟨rfl, hr, hb⟩
      have HRv := Kp.mk hr
      replace HRt := Kp.mk (HRt.out.below' hb)
      replace HRu := Kp.mk (HRu.out.below' hb)
      have hszv : Kp (w.heap.size ≤ x7.heap.size ∧ x7.heap.size < x8.heap.size) := ⟨HB.out.size, hr.lt⟩
      replace HB : Kp (Below w.heap.size w x8) := ⟨HB.out.trans (hb.mono HB.out.size)⟩
      clear hr hb
      obtain ⟨gv, hgv⟩ : ∃ g, x7.heap.size = g := ⟨_, rfl⟩
      rw [hgv] at HRv hszv ⊢
      go_wp2_with fail
      refine (New_any _ _).mono ?_
      rintro e x9 ⟨rfl, hr, hb⟩
      have HRq := Kp.mk hr
      replace HRt := Kp.mk (HRt.out.below' hb)
      replace HRu := Kp.mk (HRu.out.below' hb)
      replace HRv := Kp.mk (HRv.out.below' hb)
      have hszq : Kp (w.heap.size ≤ x8.heap.size ∧ x8.heap.size < x9.heap.size) := ⟨HB.out.size, hr.lt⟩
      replace HB : Kp (Below w.heap.size w x9) := ⟨HB.out.trans (hb.mono HB.out.size)⟩
      clear hr hb
      obtain ⟨gq, hgq⟩ : ∃ g, x8.heap.size = g := ⟨_, rfl⟩
      rw [hgq] at HRq hszq ⊢
      have hnetu : Kp (gu ≠ gt) := ⟨by have := hszt.out.2; have := hszu.out.2; have := hszv.out.2; have := hszq.out.2; omega⟩
      have hnetv : Kp (gv ≠ gt) := ⟨by have := hszt.out.2; have := hszu.out.2; have := hszv.out.2; have := hszq.out.2; omega⟩
      have hnetq : Kp (gq ≠ gt) := ⟨by have := hszt.out.2; have := hszu.out.2; have := hszv.out.2; have := hszq.out.2; omega⟩
      have hneut : Kp (gt ≠ gu) := ⟨by have := hszt.out.2; have := hszu.out.2; have := hszv.out.2; have := hszq.out.2; omega⟩
      have hneuv : Kp (gv ≠ gu) := ⟨by have := hszt.out.2; have := hszu.out.2; have := hszv.out.2; have := hszq.out.2; omega⟩
      have hneuq : Kp (gq ≠ gu) := ⟨by have := hszt.out.2; have := hszu.out.2; have := hszv.out.2; have := hszq.out.2; omega⟩
      have hnevt : Kp (gt ≠ gv) := ⟨by have := hszt.out.2; have := hszu.out.2; have := hszv.out.2; have := hszq.out.2; omega⟩
      have hnevu : Kp (gu ≠ gv) := ⟨by have := hszt.out.2; have := hszu.out.2; have := hszv.out.2; have := hszq.out.2; omega⟩
      have hnevq : Kp (gq ≠ gv) := ⟨by have := hszt.out.2; have := hszu.out.2; have := hszv.out.2; have := hszq.out.2; omega⟩
      have hneqt : Kp (gt ≠ gq) := ⟨by have := hszt.out.2; have := hszu.out.2; have := hszv.out.2; have := hszq.out.2; omega⟩
      have hnequ : Kp (gu ≠ gq) := ⟨by have := hszt.out.2; have := hszu.out.2; have := hszv.out.2; have := hszq.out.2; omega⟩
      have hneqv : Kp (gv ≠ gq) := ⟨by have := hszt.out.2; have := hszu.out.2; have := hszv.out.2; have := hszq.out.2; omega⟩
      clear hgt hgu hgv hgq
      go_wp2_with fail
      refine (Text_at _ _ 0 0 9 _ HRt.out (by decide) (by decide) (by decide) (by decide) ⟨#[]⟩ 0 8 (by decide +kernel)).mono ?_
      rintro e x10 ⟨rfl, hr, hgr⟩
      have HRn := Kp.mk hr
      replace HRu := Kp.mk (HRu.out.grown' hgr (by have := hnetu.out; omega))
      replace HRv := Kp.mk (HRv.out.grown' hgr (by have := hnetv.out; omega))
      replace HRq := Kp.mk (HRq.out.grown' hgr (by have := hnetq.out; omega))
      replace HRt := HRn
      clear HRn
      replace HB : Kp (Below w.heap.size w x10) := ⟨HB.out.grown hgr HB.out.size (fun j hj => by have := Option.some.inj hj; have := hszt.out.1; omega)⟩
      clear hr hgr
      go_wp2_with fail
      refine (Err_at _ _ 0 8 _ HRt.out 8 rfl).mono ?_
      rintro e w' ⟨rfl, rfl⟩
      go_wp2_with fail
      refine (At_at _ _ 0 8 _ HRt.out 0 rfl).mono ?_
      rintro e w' ⟨rfl, rfl⟩
      go_wp2_with fail
      refine (Text_at _ _ 0 0 (-5) _ HRu.out (by decide) (by decide) (by decide) (by decide) ⟨#[]⟩ 0 40 (by decide +kernel)).mono ?_
      rintro e x11 ⟨rfl, hr, hgr⟩
      have HRn := Kp.mk hr
      replace HRt := Kp.mk (HRt.out.grown' hgr (by have := hneut.out; omega))
      replace HRv := Kp.mk (HRv.out.grown' hgr (by have := hneuv.out; omega))
      replace HRq := Kp.mk (HRq.out.grown' hgr (by have := hneuq.out; omega))
      replace HRu := HRn
      clear HRn
      replace HB : Kp (Below w.heap.size w x11) := ⟨HB.out.grown hgr HB.out.size (fun j hj => by have := Option.some.inj hj; have := hszu.out.1; omega)⟩
      clear hr hgr
      go_wp2_with fail
      refine (Err_at _ _ 0 40 _ HRu.out 40 rfl).mono ?_
      rintro e w' ⟨rfl, rfl⟩
      go_wp2_with fail
      refine (Zag_at _ _ 0 0 (-1) 9 _ HRv.out (by decide) (by decide) 0 0 40 (by decide +kernel)).mono ?_
      rintro e x12 ⟨rfl, hr, hgr⟩
      have HRn := Kp.mk hr
      replace HRt := Kp.mk (HRt.out.grown' hgr (by have := hnevt.out; omega))
      replace HRu := Kp.mk (HRu.out.grown' hgr (by have := hnevu.out; omega))
      replace HRq := Kp.mk (HRq.out.grown' hgr (by have := hnevq.out; omega))
      replace HRv := HRn
      clear HRn
      replace HB : Kp (Below w.heap.size w x12) := ⟨HB.out.grown hgr HB.out.size (fun j hj => by have := Option.some.inj hj; have := hszv.out.1; omega)⟩
      clear hr hgr
      go_wp2_with fail
      refine (Err_at _ _ 0 40 _ HRv.out 40 rfl).mono ?_
      rintro e w' ⟨rfl, rfl⟩
      go_wp2_with fail
      refine (Raw_at _ _ 0 0 (-1) _ HRq.out (by decide) (by decide) ⟨#[]⟩ 0 1 (by decide +kernel)).mono ?_
      rintro e x13 ⟨rfl, hr, hgr⟩
      have HRn := Kp.mk hr
      replace HRt := Kp.mk (HRt.out.grown' hgr (by have := hneqt.out; omega))
      replace HRu := Kp.mk (HRu.out.grown' hgr (by have := hnequ.out; omega))
      replace HRv := Kp.mk (HRv.out.grown' hgr (by have := hneqv.out; omega))
      replace HRq := HRn
      clear HRn
      replace HB : Kp (Below w.heap.size w x13) := ⟨HB.out.grown hgr HB.out.size (fun j hj => by have := Option.some.inj hj; have := hszq.out.1; omega)⟩
      clear hr hgr
      go_wp2_with fail
      refine (Err_at _ _ 0 1 _ HRq.out 1 rfl).mono ?_
      rintro e w' ⟨rfl, rfl⟩
      go_wp2_with fail
      refine (nilVarint _ _).mono ?_
      rintro e w' ⟨rfl, rfl⟩
      go_wp2_with fail
      refine (nilZag _ _ _).mono ?_
      rintro e w' ⟨rfl, rfl⟩
      go_wp2_with fail
      refine (nilFixed _ _).mono ?_
      rintro e w' ⟨rfl, rfl⟩
      go_wp2_with fail
      refine (nilByte _).mono ?_
      rintro e w' ⟨rfl, rfl⟩
      go_wp2_with fail
      refine (nilRaw _ _).mono ?_
      rintro e w' ⟨rfl, rfl⟩
      go_wp2_with fail
      refine (nilText _ _).mono ?_
      rintro e w' ⟨rfl, rfl⟩
      go_wp2_with fail
      refine (nilLeft _).mono ?_
      rintro e w' ⟨rfl, rfl⟩
      go_wp2_with fail
      refine (nilAt _).mono ?_
      rintro e w' ⟨rfl, rfl⟩
      go_wp2_with fail
      refine (nilErr _).mono ?_
      rintro e w' ⟨rfl, rfl⟩
      go_wp2_with fail
      refine (nilEnd _).mono ?_
      rintro e w' ⟨rfl, rfl⟩
      go_wp2
      go_ret
      exact ⟨rfl, HB.out⟩
end Go.Proofs.Ytmfigoffkopohaa
