/- The walk of BitsAsks: it returns true, and leaves what was there. -/
import Derived.Test.YtmfigoffkopohaaAsks
import Derived.Test.YtmfigoffkopohaaAnswer
import Derived.Test.YtmfigoffkopohaaRefReaderTwo
import Derived.Deep.QuietTactic
import Derived.BigQuiet
namespace Go.Proofs.Ytmfigoffkopohaa
open Go.RowKit
set_option linter.unusedVariables false

theorem AskAt.lt {w : World} {a : Addr} {q : AskV} (h : AskAt w a q) : a.block < w.heap.size := by
  have h0 := h.1
  unfold World.cell? at h0
  rcases Nat.lt_or_ge a.block w.heap.size with h | h
  · exact h
  · simp [Addr.add, Array.getElem?_eq_none h] at h0
theorem AskAt.below {w w' : World} {a : Addr} {q : AskV} (h : AskAt w a q) (hb : Below w.heap.size w w') : AskAt w' a q := by
  have hl := h.lt
  obtain ⟨h0, h1, h2, h3⟩ := h
  exact ⟨by rw [hb.cell (p := a.add 0) hl]; exact h0, by rw [hb.cell (p := a.add 1) hl]; exact h1, by rw [hb.cell (p := a.add 2) hl]; exact h2, by rw [hb.cell (p := a.add 3) hl]; exact h3⟩
theorem Rd.grown {w w' : World} {g x : Nat} {s : ByteArray} {p e : Nat} (h : Rd w g s p e) (hg : w.grownBy w' (some x)) (hne : g ≠ x) : Rd w' g s p e := by
  unfold Rd at *
  rw [hg.block g (lt_of_block h) (fun h => hne (Option.some.inj h))]; exact h
theorem Rx.grown {w w' : World} {g x : Nat} {s : ByteArray} {p e : Nat} (h : Rx w g s p e) (hg : w.grownBy w' (some x)) (hne : g ≠ x) : Rx w' g s p e := by
  unfold Rx at *
  rw [hg.block g (lt_of_block h) (fun h => hne (Option.some.inj h))]; exact h
theorem belowN {B : Nat} {a w : World} (h : Below B a w) (n : Nat) : Below B a (w.drewN n) := ⟨h.os, h.tape, h.output, h.size, h.block⟩
theorem q_same {P : Program} {f : FuncId} {args : Array Value} {w : World} {n : Nat} {v : Value}
    (h : Calls P f args (w.drewN n) fun e w' => e = .returned v ∧ w.drewN n = w') : Calls P f args (w.drewN n) fun e w'' => e = .returned v ∧ ∃ m, w'' = w.drewN m :=
  h.mono fun _ _ ⟨he, hm⟩ => ⟨he, n, hm.symm⟩
theorem q_drew {P : Program} {f : FuncId} {args : Array Value} {w : World} {n : Nat} {v : Value}
    (h : Calls P f args (w.drewN n) fun e w' => e = .returned v ∧ (w.drewN n).drew = w') : Calls P f args (w.drewN n) fun e w'' => e = .returned v ∧ ∃ m, w'' = w.drewN m :=
  h.mono fun _ _ ⟨he, hm⟩ => ⟨he, n + 1, hm.symm⟩
theorem q_either {P : Program} {f : FuncId} {args : Array Value} {w : World} {n : Nat} {v : Value}
    (h : Calls P f args (w.drewN n) fun e w' => e = .returned v ∧ (w' = w.drewN n ∨ w' = (w.drewN n).drew)) : Calls P f args (w.drewN n) fun e w'' => e = .returned v ∧ ∃ m, w'' = w.drewN m :=
  h.mono fun _ _ ⟨he, hm⟩ => ⟨he, by rcases hm with h | h; exact ⟨n, h⟩; exact ⟨n + 1, h⟩⟩
set_option maxRecDepth 100000 in
set_option maxHeartbeats 1000000 in
theorem asks_core (w : World) (s : ByteArray) (ao : Option Addr) (len cap : Nat) (f : Nat → AskV) (hs : s.size ≤ 3000) (hl : len ≤ 200) (hf : ∀ i, i < len → ∃ a, ao = some a ∧ (f i).ok ∧ AskAt w (a.add (i * 4)) (f i)) :
    Calls Try.prog 10 #[.string s, .slice ao len cap] w fun e w' => e = .returned (.bool true) ∧ Below w.heap.size w w' := by
  have HF := Kp.mk hf
  clear hf
  have t1 : decide ((3000 : Int) < (s.size : Int)) = false := by rw [decide_eq_false_iff_not]; omega
  have t2 : decide ((200 : Int) < (len : Int)) = false := by rw [decide_eq_false_iff_not]; omega
  go_enter Try.func10, Try.ntmps10
  go_wp2_with fail
  refine (New_any _ _).mono ?_
  rintro e w2 ⟨rfl, hr2, hb2⟩
  have HB2 : Kp (Below w.heap.size w w2) := ⟨hb2⟩
  have HR2 := Kp.mk hr2
  have hg : Kp (w.heap.size ≤ w.heap.size) := ⟨Nat.le_refl _⟩
  clear hb2 hr2
  have hlt : Kp (w.heap.size < w2.heap.size) := ⟨HR2.out.lt⟩
  have HX2 : Kp (Rx (w2.alloc (.cells #[.string s, .int .i64 (0 : Nat), .int .i64 (0 : Nat)] 66)) w2.heap.size s 0 0) := ⟨by show (w2.heap.push _)[w2.heap.size]? = _; simp⟩
  have HRa : Kp (∀ o, Rd (w2.alloc o) w.heap.size s 0 0) := ⟨fun o => HR2.out.alloc o⟩
  have HBa : Kp (∀ o, Below w.heap.size w (w2.alloc o)) := ⟨fun o => HB2.out.trans ((Below.refl _ _).alloc (Nat.le_of_lt hlt.out) o)⟩
  have hg : Kp (w.heap.size ≤ w.heap.size) := ⟨Nat.le_refl _⟩
  have hg2 : Kp (w.heap.size ≤ w2.heap.size) := ⟨Nat.le_of_lt hlt.out⟩
  obtain ⟨g, hgg⟩ : ∃ g, w.heap.size = g := ⟨_, rfl⟩
  rw [hgg] at HR2 HRa hlt hg ⊢
  obtain ⟨g2, hg2g⟩ : ∃ g, w2.heap.size = g := ⟨_, rfl⟩
  rw [hg2g] at HX2 hlt hg2
  have HE := Kp.mk hgg
  have HE2 := Kp.mk hg2g
  have hg' : Kp (w.heap.size ≤ g) := ⟨by rw [HE.out]; exact Nat.le_refl _⟩
  have hg2' : Kp (w.heap.size ≤ g2) := ⟨by rw [HE.out]; exact Nat.le_of_lt hlt.out⟩
  clear hgg hg hg2
  go_wp2
  clear hg2g
  go_loopw [7] (fun i wr => ∃ k p e : Nat, i = .int .i64 k ∧ k ≤ len ∧ Rd wr g s p e ∧ Rx wr g2 s p e ∧ p ≤ s.size ∧ e ≤ 40 ∧ Below w.heap.size w wr) (fun i _ => len - (intOf i).toNat)
  case atStart => exact ⟨0, 0, 0, rfl, by omega, HRa.out _, HX2.out, by omega, by omega, HBa.out _⟩
  case round =>
    obtain ⟨k, p, e, rfl, hk, hr, hx, hp, he, hb⟩ := hrel
    have HR := Kp.mk hr
    have HX := Kp.mk hx
    have HB := Kp.mk hb
    clear hb hr hx
    by_cases hkl : k < len
    · obtain ⟨a, rfl, hok, hat⟩ := HF.out k hkl
      have HF2' := Kp.mk hat
      have hat := hat.below HB.out
      obtain ⟨c0, c1, c2, c3⟩ := hat
      have HA := Kp.mk (fun wr h => ask_any g s p e (f k) hok wr h hp (by omega))
      have HA2 := Kp.mk (fun wr h => told_any g2 s p e (f k) hok wr h hp (by omega))
      have hfair := answer_fair s.data.toList p e (f k) (by rw [data_len]; exact hp) he
      generalize f k = q at c0 c1 c2 c3 HA HA2 hfair HF2'
      generalize answer s.data.toList p e q = ans at HA HA2 hfair
      obtain ⟨what, qn, qa, qb⟩ := q
      obtain ⟨n, t, p', e'⟩ := ans
      obtain ⟨⟨f1, f2, f3, f4, f5, f6⟩, f7⟩ := hfair
      simp only [data_len] at f1 f2 f3 f4 f5 f6 f7
      have c0 : wr.cell? (a.add (k * 4)) = some (.int .u8 what) := c0
      have c1 : wr.cell? ⟨(a.add (k * 4)).block, (a.add (k * 4)).off + 1, none⟩ = some (.int .u64 qn) := c1
      have c2 : wr.cell? ⟨(a.add (k * 4)).block, (a.add (k * 4)).off + 2, none⟩ = some (.int .i64 qa) := c2
      have c3 : wr.cell? ⟨(a.add (k * 4)).block, (a.add (k * 4)).off + 3, none⟩ = some (.int .i64 qb) := c3
      clear hok f1 f2 f7
      go_wp2_with fail
      refine (HA.out wr HR.out).mono ?_
      rintro e0 w3 ⟨rfl, hr3, hg3⟩
      have HR3 := Kp.mk hr3
      have HX3 : Kp (Rx w3 g2 s p e) := ⟨HX.out.grown hg3 (by have := hlt.out; omega)⟩
      have HB3 : Kp (Below w.heap.size w w3) := ⟨HB.out.grown hg3 HB.out.size (fun j hj => by simp at hj; have := hg'.out; omega)⟩
      have hA3 : AskAt w3 (a.add (k * 4)) ⟨what, qn, qa, qb⟩ := (HF2'.out).below HB3.out
      obtain ⟨d0, d1, d2, d3⟩ := hA3
      have d0 : w3.cell? (a.add (k * 4)) = some (.int .u8 what) := d0
      have d1 : w3.cell? ⟨(a.add (k * 4)).block, (a.add (k * 4)).off + 1, none⟩ = some (.int .u64 qn) := d1
      have d2 : w3.cell? ⟨(a.add (k * 4)).block, (a.add (k * 4)).off + 2, none⟩ = some (.int .i64 qa) := d2
      have d3 : w3.cell? ⟨(a.add (k * 4)).block, (a.add (k * 4)).off + 3, none⟩ = some (.int .i64 qb) := d3
      clear c0 c1 c2 c3 hr3 hg3
      go_wp2_with fail
      refine (HA2.out w3 HX3.out).mono ?_
      rintro e0 w4 ⟨rfl, hx4, hg4⟩
      have HX4 := Kp.mk hx4
      have HR4 : Kp (Rd w4 g s p' e') := ⟨HR3.out.grown hg4 (by have := hlt.out; omega)⟩
      have HB4 : Kp (Below w.heap.size w w4) := ⟨HB3.out.grown hg4 HB3.out.size (fun j hj => by simp at hj; have := hg2'.out; omega)⟩
      have x1 := hx4.c1
      have x2 := hx4.c2
      have t7 : (((s.size - p' : Nat) : Int) != (s.size : Int) - (p' : Int)) = false := by rw [bne_eq_false_iff_eq]; omega
      clear d0 d1 d2 d3 hx4 hg4 HR3 HX3 HB3 HR HX HB
      go_wp2_with fail
      go_quiet (first
        | (go_at_call 33; refine q_same (At_any g s p' e' _ HR4.out))
        | (go_at_call 38; refine q_drew (Left_any g s p' e' _ HR4.out (by omega) (by omega)))
        | (go_at_call 34; refine q_same (Err_any g s p' e' _ HR4.out))
        | (go_at_call 35; refine q_either (End_any g s p' e' _ HR4.out (by omega) (by omega)))
        | (go_at_call 45; refine q_drew (xEnd_any g2 s p' e' _ HX4.out (by omega) (by omega))))
      go_wp2
      go_roundw
      case rel => exact ⟨k + 1, p', e', by go_num, by omega, HR4.out, HX4.out, by omega, by omega, belowN HB4.out _⟩
      case measure => simp [intOf]; omega
    · go_wp2_with fail
      refine (awake_any _).mono ?_
      rintro e w3 ⟨rfl, hb3⟩
      have HB3 := Kp.mk hb3
      clear hb3
      go_wp2
      go_ret
      exact ⟨rfl, HB.out.trans (HB3.out.mono HB.out.size)⟩
set_option maxRecDepth 100000 in
theorem asks_big (w : World) (s : ByteArray) (a : Option Addr) (len cap : Nat) (hl : len ≤ maxLen) (hs : s.size ≤ maxLen) (x : Bool) (t1 : decide ((3000 : Int) < (s.size : Int)) = x) (t2 : x = false → decide ((200 : Int) < (len : Int)) = true) :
    Calls Try.prog 10 #[.string s, .slice a len cap] w fun e w' => e = .returned (.bool true) ∧ Below w.heap.size w w' := by
  clear hl hs
  cases x
  · have t2 := t2 rfl
    go_enter Try.func10, Try.ntmps10
    go_wp2_with fail
    refine (awake_any _).mono ?_
    rintro e w1 ⟨rfl, hb1⟩
    have HB1 := Kp.mk hb1
    clear hb1
    go_wp2_with fail
    go_ret
    exact ⟨by trivial, HB1.out⟩
  · clear t2
    go_enter Try.func10, Try.ntmps10
    go_wp2_with fail
    refine (awake_any _).mono ?_
    rintro e w1 ⟨rfl, hb1⟩
    have HB1 := Kp.mk hb1
    clear hb1
    go_wp2_with fail
    go_ret
    exact ⟨by trivial, HB1.out⟩
theorem walkBitsAsks {H : Type} {enc : TypeId × Value → H} {X : Prop} {b0 : Nat} {d : DataW H} {ps : List MemPlace} (w : World) (s : ByteArray) (hs : s.size ≤ maxLen) (v : Value) (hval : Value.okWide Try.prog w .any b0 63 v)
    (h : DataW.Trod enc Try.prog w 0 (fun _ => true) true 63 v d ps) (_hweigh : X) :
    Calls Try.prog 10 #[.string s, v] w fun e w' => e = .returned (.bool true) ∧ Below w.heap.size w w' := by
  obtain ⟨a0, len0, cap0, hv⟩ := Go.WideShapes.okWide_slice Try.underlying63 hval
  have hc : v.cells.toList = [v] := by rw [hv]; rfl
  rcases asks_open hc h with rfl | ⟨a, len, cap, f, rfl, hlm, hf⟩
  · by_cases h3 : s.size ≤ 3000
    · exact asks_core w s none 0 0 (fun _ => ⟨0, 0, 0, 0⟩) h3 (by decide) (fun i hi => absurd hi (Nat.not_lt_zero i))
    · exact asks_big w s none 0 0 (by decide) hs true (by rw [decide_eq_true_eq]; omega) (fun h => by cases h)
  · by_cases h3 : s.size ≤ 3000
    · by_cases h2 : len ≤ 200
      · exact asks_core w s (some a) len cap f h3 h2 (fun i hi => ⟨a, rfl, hf i hi⟩)
      · exact asks_big w s (some a) len cap hlm hs false (by rw [decide_eq_false_iff_not]; omega) (fun _ => by rw [decide_eq_true_eq]; omega)
    · exact asks_big w s (some a) len cap hlm hs true (by rw [decide_eq_true_eq]; omega) (fun h => by cases h)
end Go.Proofs.Ytmfigoffkopohaa
