/- The walk of SumThree: it returns true, and leaves what was there. -/
import Derived.Test.YtinbmoafdmccfaaDoorSumAwake
import Derived.Test.YtinbmoafdmccfaaDoorBytes
import Derived.OneCell
import Derived.RegionTactic
import Derived.BigRegion
import Derived.ChangeAlike
import Derived.Deep.RegionHeld3
import Derived.WalkSpells
namespace Go.Proofs.YtinbmoafdmccfaaDoor
open Go.RowKit
set_option linter.unusedVariables false

structure Kp (p : Prop) : Prop where
  out : p
def mixL (l m k : List UInt8) (n : Nat) : List UInt8 := (List.range n).map fun i => l.getD i 0 ^^^ m.getD i 0 ^^^ k.getD i 0
theorem mixL_len (l m k : List UInt8) (n : Nat) : (mixL l m k n).length = n := by simp [mixL]
theorem mixL_succ (l m k : List UInt8) (n : Nat) : mixL l m k (n + 1) = mixL l m k n ++ [l.getD n 0 ^^^ m.getD n 0 ^^^ k.getD n 0] := by simp [mixL, List.range_succ]
theorem take_getD (l : List UInt8) (n : Nat) (h : n < l.length) : l.take (n + 1) = l.take n ++ [l.getD n 0] := by
  rw [List.take_succ_eq_append_getElem h]; simp [List.getD, List.getElem?_eq_getElem h]
theorem byte_mix (a b c : Nat) (x y z : UInt8) : Crc.byte (a ^^^ b ^^^ c) (x ^^^ y ^^^ z) = Crc.byte a x ^^^ Crc.byte b y ^^^ Crc.byte c z := by
  unfold Crc.byte
  rw [Crc.u8_xor_toNat, Crc.u8_xor_toNat, ← Crc.steps_xor, ← Crc.steps_xor]
  congr 1
  rw [Crc.xor_swap4 a x.toNat b y.toNat, Crc.xor_swap4 (a ^^^ b) (x.toNat ^^^ y.toNat) c z.toNat]
theorem upd_snoc (c : Nat) (l : List UInt8) (b : UInt8) : Crc.upd c (l ++ [b]) = Crc.byte (Crc.upd c l) b := by rw [Crc.upd_append]; rfl
theorem upd_mix (c : Nat) (l m k : List UInt8) : ∀ n, n ≤ l.length → n ≤ m.length → n ≤ k.length →
    Crc.upd (c ^^^ c ^^^ c) (mixL l m k n) = Crc.upd c (l.take n) ^^^ Crc.upd c (m.take n) ^^^ Crc.upd c (k.take n) := by
  intro n
  induction n with
  | zero => intro _ _ _; rfl
  | succ n ih =>
    intro h1 h2 h3
    rw [mixL_succ, upd_snoc, ih (by omega) (by omega) (by omega), take_getD l n (by omega), take_getD m n (by omega), take_getD k n (by omega), upd_snoc, upd_snoc, upd_snoc, byte_mix]
theorem crc_mix (l m k : List UInt8) (n : Nat) (h1 : n ≤ l.length) (h2 : n ≤ m.length) (h3 : n ≤ k.length) :
    Crc.crc (mixL l m k n) = Crc.crc (l.take n) ^^^ Crc.crc (m.take n) ^^^ Crc.crc (k.take n) := by
  have h := upd_mix (0 ^^^ Crc.ones) l m k n h1 h2 h3
  unfold Crc.crc Crc.add
  rw [Nat.xor_self, Nat.zero_xor] at h
  rw [h]
  generalize Crc.upd (0 ^^^ Crc.ones) (l.take n) = a
  generalize Crc.upd (0 ^^^ Crc.ones) (m.take n) = b
  generalize Crc.upd (0 ^^^ Crc.ones) (k.take n) = c
  rw [Crc.xor_swap4 a, Nat.xor_self, Nat.xor_zero, Nat.xor_assoc]
theorem xor8 (a b : UInt8) : bits .xor .u8 (a.toNat : Int) (b.toNat : Int) = ((a ^^^ b).toNat : Int) := by
  rw [u8_xor_nat _ _ (UInt8.toNat_lt a) (UInt8.toNat_lt b), Crc.u8_xor_toNat]
theorem own_below {w w' : World} {base : Nat} {e : TypeId} {size : Nat} {v : Value} {n : Nat} {xs : List Value} (h : w.ownsRow base e size v n xs) (hb : Below w.heap.size w w') : w'.ownsRow base e size v n xs := by
  refine ⟨h.1, ?_⟩
  rcases h.2 with h2 | ⟨g, cap, cur, h1, h2, h3, h4⟩
  · exact .inl h2
  · refine .inr ⟨g, cap, cur, h1, h2, ?_, h4⟩
    rw [hb.block g (lt_of_block h3)]; exact h3
theorem xor8_three (a b c : UInt8) : ∃ p q : Nat, bits .xor .u8 (a.toNat : Int) (b.toNat : Int) = (p : Int) ∧ bits .xor .u8 (p : Int) (c.toNat : Int) = (q : Int) ∧ Kp ((q : Int) = (((a ^^^ b ^^^ c).toNat : Nat) : Int)) :=
  ⟨(a ^^^ b).toNat, (a ^^^ b ^^^ c).toNat, xor8 a b, xor8 (a ^^^ b) c, ⟨rfl⟩⟩
theorem mix_set (s t u : ByteArray) (k n : Nat) (h : k < n) (g1 : k < s.size) (g2 : k < t.size) (g3 : k < u.size) :
    (mixL s.data.toList t.data.toList u.data.toList k ++ List.replicate (n - k) 0).set k (s[k] ^^^ t[k] ^^^ u[k]) = mixL s.data.toList t.data.toList u.data.toList (k + 1) ++ List.replicate (n - (k + 1)) 0 := by
  have e : ∀ (x : ByteArray) (h : k < x.size), x.data.toList.getD k 0 = x[k] := fun x h => by
    simp [List.getD, h]; rfl
  rw [List.set_append, if_neg (by simp [mixL_len]), mixL_len, Nat.sub_self, show n - k = (n - (k + 1)) + 1 from by omega, List.replicate_succ, List.set_cons_zero, mixL_succ, e s g1, e t g2, e u g3, List.append_assoc]; rfl
theorem min_four (a b c : Nat) : ∃ n : Nat, n ≤ a ∧ n ≤ b ∧ n ≤ c ∧ n ≤ 20000 ∧
    ∀ (ts : Array TypeId) (t : TypeId) (w : World), (Builtin.min_ ts t #[.int .i64 a, .int .i64 b, .int .i64 c, .int .i64 20000]).run Tryd.prog w = .ok (.int .i64 (n : Int)) w := by
  refine ⟨min (min a b) (min c 20000), by omega, by omega, by omega, by omega, fun ts t w => ?_⟩
  simp only [Builtin.min_, List.foldlM_cons, List.foldlM_nil, Builtin.min2, Sem.run_bind, Sem.run_pure, Result.andThen_ok]
  congr 2
  split <;> split <;> split <;> omega
theorem walkSumThree (w : World) (s : ByteArray) (hs : s.size ≤ maxLen) (t : ByteArray) (h2 : t.size ≤ maxLen) (u : ByteArray) (h3 : u.size ≤ maxLen) (hL : Tab w) :
    Calls Tryd.prog 4 #[.string s, .string t, .string u] w fun e w' => e = .returned (.bool true) ∧ Below w.heap.size w w' := by
  have HT : Kp (Tab w) := ⟨hL⟩
  clear hL
  unfold maxLen at hs h2 h3
  obtain ⟨i0, hi, hz0, hz1, hz2⟩ := info_parts infoByte
  obtain ⟨n, hn1, hn2, hn3, hn4, hmin⟩ := min_four s.size t.size u.size
  go_enter Tryd.func4, Tryd.ntmps4
  go_wp2_with (refine wpList_make_full w rfl _ _ 28 rfl w.heap.size 5 i0 (.int .u8 0) 1 Tryd.underlying28 hi hz0 hz1 .i64 .i64 n n n rfl rfl rfl rfl (by rw [hz2]; omega) (by unfold maxLen; omega) (Nat.le_refl _) ?_; intro w1 hown hgrow)
  have HO : Kp (w1.ownsRow w.heap.size 5 1 (.slice (some ⟨w.heap.size, 0, none⟩) n n) n (by8 (List.replicate n 0))) := ⟨by rw [← made_bytes]; exact hown⟩
  have HB : Kp (Below w.heap.size w w1) := ⟨(Below.refl _ _).grown hgrow (Nat.le_refl _) (fun k hk => by cases hk)⟩
  clear hown hgrow hmin
  go_wp2
  go_loopw [9] (fun i wr => ∃ k : Nat, k ≤ n ∧ i = .int .i64 k ∧ wr.ownsRow w.heap.size 5 1 (.slice (some ⟨w.heap.size, 0, none⟩) n n) n (by8 (mixL s.data.toList t.data.toList u.data.toList k ++ List.replicate (n - k) 0)) ∧ Below w.heap.size w wr) (fun i _ => n - (intOf i).toNat)
  case atStart => exact ⟨0, by omega, rfl, by simpa [mixL] using HO.out, HB.out⟩
  case round =>
    obtain ⟨k, hk, rfl, hown, hbel⟩ := hrel
    by_cases hlt : k < n
    · have hc := own_cell hown k (by simp [mixL_len]; omega)
      have hz := hown.frozenAt k
      generalize (mixL s.data.toList t.data.toList u.data.toList k ++ List.replicate (n - k) 0)[k]'(by simp [mixL_len]; omega) = old at hc
      have g1 : k < s.size := by omega
      have g2 : k < t.size := by omega
      have g3 : k < u.size := by omega
      obtain ⟨p, q, x1, x2, HQ⟩ := xor8_three s[k] t[k] u[k]
      have HN : Kp ((wr.setCell ⟨w.heap.size, k, none⟩ (.int .u8 (q : Int))).ownsRow w.heap.size 5 1 (.slice (some ⟨w.heap.size, 0, none⟩) n n) n (by8 (mixL s.data.toList t.data.toList u.data.toList (k + 1) ++ List.replicate (n - (k + 1)) 0))) := ⟨by
        have h1 := own_stored hown k (s[k] ^^^ t[k] ^^^ u[k])
        rw [mix_set s t u k n hlt g1 g2 g3, ← HQ.out] at h1
        exact h1⟩
      have HBel : Kp (Below w.heap.size w (wr.setCell ⟨w.heap.size, k, none⟩ (.int .u8 (q : Int)))) := ⟨hbel.setCell (Nat.le_refl _) _⟩
      clear hown hbel
      go_wp2
      go_region
      go_wp2
      go_roundw
      case rel => exact ⟨k + 1, by omega, by go_num, HN.out.drew, HBel.out.drew⟩
      case measure => simp [intOf]; omega
    · obtain rfl : k = n := by omega
      have hd : decide ((k : Int) < k) = false := by simp
      have HOwn : Kp (wr.ownsRow w.heap.size 5 1 (.slice (some ⟨w.heap.size, 0, none⟩) k k) (mixL s.data.toList t.data.toList u.data.toList k).length (by8 (mixL s.data.toList t.data.toList u.data.toList k))) := ⟨by simpa [mixL_len] using hown⟩
      replace HB : Kp (Below w.heap.size w wr) := ⟨hbel⟩
      replace HT : Kp (Tab wr) := ⟨HT.out.below hbel⟩
      have HM : Kp (Crc.crc (mixL s.data.toList t.data.toList u.data.toList k) = Crc.crc (s.data.toList.take k) ^^^ Crc.crc (t.data.toList.take k) ^^^ Crc.crc (u.data.toList.take k)) := ⟨crc_mix _ _ _ _ (by simpa using hn1) (by simpa using hn2) (by simpa using hn3)⟩
      have HTd : Kp (Tab wr.drew) := ⟨HT.out⟩
      have HOd : Kp (wr.drew.ownsRow w.heap.size 5 1 (.slice (some ⟨w.heap.size, 0, none⟩) k k) (mixL s.data.toList t.data.toList u.data.toList k).length (by8 (mixL s.data.toList t.data.toList u.data.toList k))) := ⟨HOwn.out.drew⟩
      clear hown hbel
      go_wp2
      have HS0 : Kp (ByteArray.size ⟨(mixL s.data.toList t.data.toList u.data.toList k).toArray⟩ ≤ 140737488351232) := ⟨by simp [ByteArray.size, mixL_len]; omega⟩
      have HS1 : Kp ((s.extract 0 k).size ≤ 140737488351232) := ⟨by simp; omega⟩
      have HS2 : Kp ((t.extract 0 k).size ≤ 140737488351232) := ⟨by simp; omega⟩
      have HS3 : Kp ((u.extract 0 k).size ≤ 140737488351232) := ⟨by simp; omega⟩
      go_region_held3 (fun w' => (convert 28 9 (.slice (some ⟨w.heap.size, 0, none⟩) k k)).run Tryd.prog w' = .ok (.string ⟨(mixL s.data.toList t.data.toList u.data.toList k).toArray⟩) w')
        (first | exact own_string HOwn.out _ Tryd.underlying9 | exact own_string HOd.out _ Tryd.underlying9 | exact own_string (own_below HOd.out (by assumption)) _ Tryd.underlying9)
        (first
          | (go_at_call 10; refine (awake_any _ HTd.out).mono ?_; rintro e w1 ⟨rfl, hb1⟩)
          | (go_at_call 11; refine (of_any _ _ (by first | exact HS0.out | exact HS1.out | exact HS2.out | exact HS3.out) (HTd.out.below (by assumption))).mono ?_; rintro e w' ⟨rfl, rfl⟩))
      go_wp2
      go_ret
      refine ⟨ret_bool ?_, HB.out.drew.trans (hb1.mono HB.out.size)⟩
      rw [x32 (Crc.crc_lt _) (Crc.crc_lt _), x32 (Nat.xor_lt_two_pow (n := 32) (Crc.crc_lt _) (Crc.crc_lt _)) (Crc.crc_lt _), ← HM.out]
      simp
end Go.Proofs.YtinbmoafdmccfaaDoor
