/- The walk of BitsSticks: it returns true, and leaves what was there. -/
import Derived.Test.YtmfigoffkopohaaAsks
import Derived.Test.YtmfigoffkopohaaAnswer
namespace Go.Proofs.Ytmfigoffkopohaa
open Go.RowKit
set_option linter.unusedVariables false

theorem AskAt.lt {w : World} {a : Addr} {q : AskV} (h : AskAt w a q) : a.block < w.heap.size := by
  have h0 := h.1
  unfold World.cell? at h0
  rcases Nat.lt_or_ge a.block w.heap.size with h | h
  · exact h
  · simp [Addr.add, Array.getElem?_eq_none h] at h0
theorem AskAt.below {w w' : World} {a : Addr} {q : AskV} (h : AskAt w a q) (hb : Below w.heap.size w w') : AskAt w' a q := by
  have hl := h.lt
  obtain ⟨h0, h1, h2, h3⟩ := h
  exact ⟨by rw [hb.cell (p := a.add 0) hl]; exact h0, by rw [hb.cell (p := a.add 1) hl]; exact h1, by rw [hb.cell (p := a.add 2) hl]; exact h2, by rw [hb.cell (p := a.add 3) hl]; exact h3⟩
set_option maxRecDepth 100000 in
set_option maxHeartbeats 1000000 in
theorem sticks_core (w : World) (s : ByteArray) (a : Addr) (len cap : Nat) (f : Nat → AskV) (hs : s.size ≤ 3000) (hl : len ≤ 200) (hf : ∀ i, i < len → (f i).ok ∧ AskAt w (a.add (i * 4)) (f i)) :
    Calls Try.prog 11 #[.string s, .slice (some a) len cap] w fun e w' => e = .returned (.bool true) ∧ Below w.heap.size w w' := by
  have HF := Kp.mk hf
  clear hf
  have t1 : decide ((3000 : Int) < (s.size : Int)) = false := by rw [decide_eq_false_iff_not]; omega
  have t2 : decide ((200 : Int) < (len : Int)) = false := by rw [decide_eq_false_iff_not]; omega
  go_enter Try.func11, Try.ntmps11
  go_wp2_with fail
  refine (awake_any _).mono ?_
  rintro e w1 ⟨rfl, hb1⟩
  have HB1 := Kp.mk hb1
  clear hb1
  go_wp2_with fail
  refine (New_any _ _).mono ?_
  rintro e w2 ⟨rfl, hr2, hb2⟩
  have HB2 : Kp (Below w.heap.size w w2) := ⟨HB1.out.trans (hb2.mono HB1.out.size)⟩
  have HR2 := Kp.mk hr2
  have hg : Kp (w.heap.size ≤ w1.heap.size) := ⟨HB1.out.size⟩
  clear hb2 hr2
  generalize w1.heap.size = g at HR2 hg ⊢
  go_wp2
  go_loopw [6] (fun i wr => ∃ k p e : Nat, i = .int .i64 k ∧ k ≤ len ∧ Rd wr g s p e ∧ p ≤ s.size ∧ e ≤ 40 ∧ Below w.heap.size w wr) (fun i _ => len - (intOf i).toNat)
  case atStart => exact ⟨0, 0, 0, rfl, by omega, HR2.out, by omega, by omega, HB2.out⟩
  case round =>
    obtain ⟨k, p, e, rfl, hk, hr, hp, he, hb⟩ := hrel
    have HR := Kp.mk hr
    have HB := Kp.mk hb
    clear hb hr
    by_cases hkl : k < len
    · obtain ⟨hok, hat⟩ := HF.out k hkl
      have HF2' := Kp.mk hat
      have hat := hat.below HB.out
      obtain ⟨c0, c1, c2, c3⟩ := hat
      have HA := Kp.mk (fun wr h => ask_any g s p e (f k) hok wr h hp (by omega))
      have hfair := answer_fair s.data.toList p e (f k) (by rw [data_len]; exact hp) he
      generalize f k = q at c0 c1 c2 c3 HA hfair HF2'
      generalize answer s.data.toList p e q = ans at HA hfair
      obtain ⟨what, qn, qa, qb⟩ := q
      obtain ⟨n, t, p', e'⟩ := ans
      obtain ⟨⟨f1, f2, f3, f4, f5, f6⟩, f7⟩ := hfair
      simp only [data_len] at f1 f2 f3 f4 f5 f6 f7
      have F1 := Kp.mk f1
      have F2 := Kp.mk f2
      have F7 := Kp.mk f7
      clear f1 f2 f7
      have c0 : wr.cell? (a.add (k * 4)) = some (.int .u8 what) := c0
      have c1 : wr.cell? ⟨(a.add (k * 4)).block, (a.add (k * 4)).off + 1, none⟩ = some (.int .u64 qn) := c1
      have c2 : wr.cell? ⟨(a.add (k * 4)).block, (a.add (k * 4)).off + 2, none⟩ = some (.int .i64 qa) := c2
      have c3 : wr.cell? ⟨(a.add (k * 4)).block, (a.add (k * 4)).off + 3, none⟩ = some (.int .i64 qb) := c3
      clear hok
      go_wp2_with fail
      refine (Err_any g s p e _ HR.out).mono ?_
      rintro e' w' ⟨rfl, rfl⟩
      go_wp2_with fail
      refine (At_any g s p e _ HR.out).mono ?_
      rintro e' w' ⟨rfl, rfl⟩
      go_wp2_with fail
      refine (HA.out wr HR.out).mono ?_
      rintro e0 w3 ⟨rfl, hr3, hg3⟩
      have HR3 := Kp.mk hr3
      have HB3 : Kp (Below w.heap.size w w3) := ⟨HB.out.grown hg3 HB.out.size (fun j hj => by simp at hj; have := hg.out; omega)⟩
      have HRd := Kp.mk hr3.drew
      have hA3 : AskAt w3 (a.add (k * 4)) ⟨what, qn, qa, qb⟩ := (HF2'.out).below HB3.out
      obtain ⟨d0, d1, d2, d3⟩ := hA3
      have d0 : w3.drew.cell? (a.add (k * 4)) = some (.int .u8 what) := d0
      have d2 : w3.drew.cell? ⟨(a.add (k * 4)).block, (a.add (k * 4)).off + 2, none⟩ = some (.int .i64 qa) := d2
      clear c0 c1 c2 c3 d1 d3 hr3 hg3
      have t7 : (((s.size - p' : Nat) : Int) != (s.size : Int) - (p' : Int)) = false := by rw [bne_eq_false_iff_eq]; omega
      have t8 : decide ((p' : Int) < (p : Int)) = false := by rw [decide_eq_false_iff_not]; omega
      by_cases he' : e' = 0
      · have h0 : e = 0 := by
          rcases Nat.eq_zero_or_pos e with h | h
          · exact h
          · have := F1.out (by omega); omega
        subst he' h0
        go_wp2_with fail
        refine (Err_any g s p' 0 _ HR3.out).mono ?_
        rintro e0 w' ⟨rfl, rfl⟩
        go_wp2_with fail
        refine (At_any g s p' 0 _ HR3.out).mono ?_
        rintro e0 w' ⟨rfl, rfl⟩
        go_wp2_with fail
        refine (Left_any g s p' 0 _ HR3.out (by omega) (by omega)).mono ?_
        rintro e0 w' ⟨rfl, rfl⟩
        go_wp2_with fail
        refine (At_any g s p' 0 _ HRd.out).mono ?_
        rintro e0 w' ⟨rfl, rfl⟩
        by_cases h4 : what = 4
        · obtain ⟨z1, z2⟩ := F7.out h4 trivial
          have hX : Kp (s.extract p p' = B t) := ⟨bytes_ext (by
            have := extract_list s p (p' - p)
            rw [show p + (p' - p) = p' from by omega] at this
            rw [this, B_list, z1])⟩
          have hz : ((B t).size : Int) = qa := by rw [B_size]; exact z2
          have hq : (B t).toList = (s.extract p p').toList := by rw [hX.out]
          clear z1 z2
          go_wp2_with fail
          refine (At_any g s p' 0 _ HRd.out).mono ?_
          rintro e0 w' ⟨rfl, rfl⟩
          go_wp2
          go_roundw
          case rel => exact ⟨k + 1, p', 0, by go_num, by omega, HRd.out, by omega, by omega, HB3.out.drew⟩
          case measure => simp [intOf]; omega
        · have t4 : ((what : Int) == 4) = false := by rw [beq_eq_false_iff_ne]; omega
          go_wp2
          go_roundw
          case rel => exact ⟨k + 1, p', 0, by go_num, by omega, HRd.out, by omega, by omega, HB3.out.drew⟩
          case measure => simp [intOf]; omega
      · obtain ⟨rfl, rfl, rfl⟩ := F2.out he'
        have t5 : ((e' : Int) != 0) = true := by rw [bne_iff_ne]; omega
        have t6 : ((e' : Int) == 0) = false := by rw [beq_eq_false_iff_ne]; omega
        have hBn : (B []).toList.isEmpty = true := by rw [bytes_toList, B_list]; rfl
        by_cases h0 : e = 0
        · subst h0
          go_wp2_with fail
          refine (Err_any g s _ e' _ HR3.out).mono ?_
          rintro e0 w' ⟨rfl, rfl⟩
          go_wp2_with fail
          refine (At_any g s _ e' _ HR3.out).mono ?_
          rintro e0 w' ⟨rfl, rfl⟩
          go_wp2_with fail
          refine (At_any g s _ e' _ HR3.out).mono ?_
          rintro e0 w' ⟨rfl, rfl⟩
          go_wp2_with fail
          refine (Left_any g s _ e' _ HR3.out (by omega) (by omega)).mono ?_
          rintro e0 w' ⟨rfl, rfl⟩
          go_wp2_with fail
          refine (At_any g s _ e' _ HRd.out).mono ?_
          rintro e0 w' ⟨rfl, rfl⟩
          go_wp2
          go_roundw
          case rel => exact ⟨k + 1, _, e', by go_num, by omega, HRd.out, by omega, by omega, HB3.out.drew⟩
          case measure => simp [intOf]; omega
        · obtain rfl := F1.out h0
          have t9 : ((e' : Int) != (e' : Int)) = false := by simp
          go_wp2_with fail
          refine (Err_any g s _ e' _ HR3.out).mono ?_
          rintro e0 w' ⟨rfl, rfl⟩
          go_wp2_with fail
          refine (At_any g s _ e' _ HR3.out).mono ?_
          rintro e0 w' ⟨rfl, rfl⟩
          go_wp2_with fail
          refine (At_any g s _ e' _ HR3.out).mono ?_
          rintro e0 w' ⟨rfl, rfl⟩
          go_wp2_with fail
          refine (Left_any g s _ e' _ HR3.out (by omega) (by omega)).mono ?_
          rintro e0 w' ⟨rfl, rfl⟩
          go_wp2_with fail
          refine (At_any g s _ e' _ HRd.out).mono ?_
          rintro e0 w' ⟨rfl, rfl⟩
          go_wp2
          go_roundw
          case rel => exact ⟨k + 1, _, e', by go_num, by omega, HRd.out, by omega, by omega, HB3.out.drew⟩
          case measure => simp [intOf]; omega
    · have HEnd := Kp.mk (End_any g s p e wr HR.out hp (by omega))
      by_cases h0 : e = 0
      · have k0 : ((e : Int) == 0) = true := by rw [beq_iff_eq]; omega
        by_cases hlt : p < s.size
        · have k1 : ((p : Int) == (s.size : Int)) = false := by rw [beq_eq_false_iff_ne]; omega
          rw [if_pos ⟨h0, hlt⟩] at HEnd
          have h0' := Kp.mk h0
          clear h0 hlt
          go_wp2_with fail
          refine (At_any g s p e _ HR.out).mono ?_
          rintro e0 w' ⟨rfl, rfl⟩
          go_wp2_with fail
          refine HEnd.out.mono ?_
          rintro e0 w' ⟨rfl, hw'⟩
          have HR' : Kp (Rd w' g s p e) := ⟨by rcases hw' with rfl | rfl <;> exact HR.out⟩
          have HB' : Kp (Below w.heap.size w w') := ⟨by rcases hw' with rfl | rfl; exact HB.out; exact HB.out.drew⟩
          clear hw'
          go_wp2_with fail
          refine (Err_any g s p e _ HR'.out).mono ?_
          rintro e0 w' ⟨rfl, rfl⟩
          go_wp2_with fail
          refine (At_any g s p e _ HR'.out).mono ?_
          rintro e0 w' ⟨rfl, rfl⟩
          go_wp2
          go_ret
          exact ⟨by trivial, HB'.out⟩
        · have k1 : ((p : Int) == (s.size : Int)) = true := by rw [beq_iff_eq]; omega
          rw [if_neg (fun h => hlt h.2)] at HEnd
          have h0' := Kp.mk h0
          clear h0 hlt
          go_wp2_with fail
          refine (At_any g s p e _ HR.out).mono ?_
          rintro e0 w' ⟨rfl, rfl⟩
          go_wp2_with fail
          refine HEnd.out.mono ?_
          rintro e0 w' ⟨rfl, hw'⟩
          have HR' : Kp (Rd w' g s p e) := ⟨by rcases hw' with rfl | rfl <;> exact HR.out⟩
          have HB' : Kp (Below w.heap.size w w') := ⟨by rcases hw' with rfl | rfl; exact HB.out; exact HB.out.drew⟩
          clear hw'
          go_wp2_with fail
          refine (Err_any g s p e _ HR'.out).mono ?_
          rintro e0 w' ⟨rfl, rfl⟩
          go_wp2_with fail
          refine (At_any g s p e _ HR'.out).mono ?_
          rintro e0 w' ⟨rfl, rfl⟩
          go_wp2
          go_ret
          exact ⟨by trivial, HB'.out⟩
      · have k0 : ((e : Int) == 0) = false := by rw [beq_eq_false_iff_ne]; omega
        rw [if_neg (fun h => h0 h.1)] at HEnd
        clear h0
        go_wp2_with fail
        refine (At_any g s p e _ HR.out).mono ?_
        rintro e0 w' ⟨rfl, rfl⟩
        go_wp2_with fail
        refine HEnd.out.mono ?_
        rintro e0 w' ⟨rfl, hw'⟩
        have HR' : Kp (Rd w' g s p e) := ⟨by rcases hw' with rfl | rfl <;> exact HR.out⟩
        have HB' : Kp (Below w.heap.size w w') := ⟨by rcases hw' with rfl | rfl; exact HB.out; exact HB.out.drew⟩
        clear hw'
        go_wp2_with fail
        refine (Err_any g s p e _ HR'.out).mono ?_
        rintro e0 w' ⟨rfl, rfl⟩
        go_wp2
        go_ret
        exact ⟨by trivial, HB'.out⟩
set_option maxRecDepth 100000 in
set_option maxHeartbeats 1000000 in
theorem sticks_core0 (w : World) (s : ByteArray) (hs : s.size ≤ 3000) :
    Calls Try.prog 11 #[.string s, .slice none 0 0] w fun e w' => e = .returned (.bool true) ∧ Below w.heap.size w w' := by
  have t1 : decide ((3000 : Int) < (s.size : Int)) = false := by rw [decide_eq_false_iff_not]; omega
  go_enter Try.func11, Try.ntmps11
  go_wp2_with fail
  refine (awake_any _).mono ?_
  rintro e w1 ⟨rfl, hb1⟩
  have HB1 := Kp.mk hb1
  clear hb1
  go_wp2_with fail
  refine (New_any _ _).mono ?_
  rintro e w2 ⟨rfl, hr2, hb2⟩
  have HB2 : Kp (Below w.heap.size w w2) := ⟨HB1.out.trans (hb2.mono HB1.out.size)⟩
  have HR2 := Kp.mk hr2
  have hg : Kp (w.heap.size ≤ w1.heap.size) := ⟨HB1.out.size⟩
  clear hb2 hr2
  generalize w1.heap.size = g at HR2 hg ⊢
  go_wp2
  go_loopw [6] (fun i wr => ∃ k p e : Nat, i = .int .i64 k ∧ k ≤ 0 ∧ Rd wr g s p e ∧ p ≤ s.size ∧ e ≤ 40 ∧ Below w.heap.size w wr) (fun i _ => 0 - (intOf i).toNat)
  case atStart => exact ⟨0, 0, 0, rfl, by omega, HR2.out, by omega, by omega, HB2.out⟩
  case round =>
    obtain ⟨k, p, e, rfl, hk, hr, hp, he, hb⟩ := hrel
    have HR := Kp.mk hr
    have HB := Kp.mk hb
    clear hb hr
    obtain rfl : k = 0 := by omega
    · have HEnd := Kp.mk (End_any g s p e wr HR.out hp (by omega))
      by_cases h0 : e = 0
      · have k0 : ((e : Int) == 0) = true := by rw [beq_iff_eq]; omega
        by_cases hlt : p < s.size
        · have k1 : ((p : Int) == (s.size : Int)) = false := by rw [beq_eq_false_iff_ne]; omega
          rw [if_pos ⟨h0, hlt⟩] at HEnd
          have h0' := Kp.mk h0
          clear h0 hlt
          go_wp2_with fail
          refine (At_any g s p e _ HR.out).mono ?_
          rintro e0 w' ⟨rfl, rfl⟩
          go_wp2_with fail
          refine HEnd.out.mono ?_
          rintro e0 w' ⟨rfl, hw'⟩
          have HR' : Kp (Rd w' g s p e) := ⟨by rcases hw' with rfl | rfl <;> exact HR.out⟩
          have HB' : Kp (Below w.heap.size w w') := ⟨by rcases hw' with rfl | rfl; exact HB.out; exact HB.out.drew⟩
          clear hw'
          go_wp2_with fail
          refine (Err_any g s p e _ HR'.out).mono ?_
          rintro e0 w' ⟨rfl, rfl⟩
          go_wp2_with fail
          refine (At_any g s p e _ HR'.out).mono ?_
          rintro e0 w' ⟨rfl, rfl⟩
          go_wp2
          go_ret
          exact ⟨by trivial, HB'.out⟩
        · have k1 : ((p : Int) == (s.size : Int)) = true := by rw [beq_iff_eq]; omega
          rw [if_neg (fun h => hlt h.2)] at HEnd
          have h0' := Kp.mk h0
          clear h0 hlt
          go_wp2_with fail
          refine (At_any g s p e _ HR.out).mono ?_
          rintro e0 w' ⟨rfl, rfl⟩
          go_wp2_with fail
          refine HEnd.out.mono ?_
          rintro e0 w' ⟨rfl, hw'⟩
          have HR' : Kp (Rd w' g s p e) := ⟨by rcases hw' with rfl | rfl <;> exact HR.out⟩
          have HB' : Kp (Below w.heap.size w w') := ⟨by rcases hw' with rfl | rfl; exact HB.out; exact HB.out.drew⟩
          clear hw'
          go_wp2_with fail
          refine (Err_any g s p e _ HR'.out).mono ?_
          rintro e0 w' ⟨rfl, rfl⟩
          go_wp2_with fail
          refine (At_any g s p e _ HR'.out).mono ?_
          rintro e0 w' ⟨rfl, rfl⟩
          go_wp2
          go_ret
          exact ⟨by trivial, HB'.out⟩
      · have k0 : ((e : Int) == 0) = false := by rw [beq_eq_false_iff_ne]; omega
        rw [if_neg (fun h => h0 h.1)] at HEnd
        clear h0
        go_wp2_with fail
        refine (At_any g s p e _ HR.out).mono ?_
        rintro e0 w' ⟨rfl, rfl⟩
        go_wp2_with fail
        refine HEnd.out.mono ?_
        rintro e0 w' ⟨rfl, hw'⟩
        have HR' : Kp (Rd w' g s p e) := ⟨by rcases hw' with rfl | rfl <;> exact HR.out⟩
        have HB' : Kp (Below w.heap.size w w') := ⟨by rcases hw' with rfl | rfl; exact HB.out; exact HB.out.drew⟩
        clear hw'
        go_wp2_with fail
        refine (Err_any g s p e _ HR'.out).mono ?_
        rintro e0 w' ⟨rfl, rfl⟩
        go_wp2
        go_ret
        exact ⟨by trivial, HB'.out⟩
set_option maxRecDepth 100000 in
theorem sticks_big (w : World) (s : ByteArray) (a : Option Addr) (len cap : Nat) (hl : len ≤ maxLen) (hs : s.size ≤ maxLen) (x : Bool) (t1 : decide ((3000 : Int) < (s.size : Int)) = x) (t2 : x = false → decide ((200 : Int) < (len : Int)) = true) :
    Calls Try.prog 11 #[.string s, .slice a len cap] w fun e w' => e = .returned (.bool true) ∧ Below w.heap.size w w' := by
  clear hl hs
  cases x
  · have t2 := t2 rfl
    go_enter Try.func11, Try.ntmps11
    go_wp2_with fail
    refine (awake_any _).mono ?_
    rintro e w1 ⟨rfl, hb1⟩
    have HB1 := Kp.mk hb1
    clear hb1
    go_wp2_with fail
    go_ret
    exact ⟨by trivial, HB1.out⟩
  · clear t2
    go_enter Try.func11, Try.ntmps11
    go_wp2_with fail
    refine (awake_any _).mono ?_
    rintro e w1 ⟨rfl, hb1⟩
    have HB1 := Kp.mk hb1
    clear hb1
    go_wp2_with fail
    go_ret
    exact ⟨by trivial, HB1.out⟩
theorem walkBitsSticks {H : Type} {enc : TypeId × Value → H} {X : Prop} {b0 : Nat} {d : DataW H} {ps : List MemPlace} (w : World) (s : ByteArray) (hs : s.size ≤ maxLen) (v : Value) (hval : Value.okWide Try.prog w .any b0 63 v)
    (h : DataW.Trod enc Try.prog w 0 (fun _ => true) true 63 v d ps) (_hweigh : X) :
    Calls Try.prog 11 #[.string s, v] w fun e w' => e = .returned (.bool true) ∧ Below w.heap.size w w' := by
  obtain ⟨a0, len0, cap0, hv⟩ := Go.WideShapes.okWide_slice Try.underlying63 hval
  have hc : v.cells.toList = [v] := by rw [hv]; rfl
  rcases asks_open hc h with rfl | ⟨a, len, cap, f, rfl, hlm, hf⟩
  · by_cases h3 : s.size ≤ 3000
    · exact sticks_core0 w s h3
    · exact sticks_big w s none 0 0 (by decide) hs true (by rw [decide_eq_true_eq]; omega) (fun h => by cases h)
  · by_cases h3 : s.size ≤ 3000
    · by_cases h2 : len ≤ 200
      · exact sticks_core w s a len cap f h3 h2 hf
      · exact sticks_big w s (some a) len cap hlm hs false (by rw [decide_eq_false_iff_not]; omega) (fun _ => by rw [decide_eq_true_eq]; omega)
    · exact sticks_big w s (some a) len cap hlm hs true (by rw [decide_eq_true_eq]; omega) (fun h => by cases h)
end Go.Proofs.Ytmfigoffkopohaa
