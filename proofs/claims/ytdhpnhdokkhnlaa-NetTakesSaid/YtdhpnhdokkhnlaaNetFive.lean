/- Package net: Clone, Mails, Take, Lose, Twice. -/
import Derived.Test.YtdhpnhdokkhnlaaNetFour
import Derived.WalkSpells
namespace Go.Proofs.Ytdhpnhdokkhnlaa
open Go.RowKit
set_option linter.unusedVariables false

set_option maxRecDepth 20000 in
theorem Clone_any (v : Value) (l : List MailV) (w : World) (h : RK 4 w v l.length (rows l)) (hl : l.length ≤ 1000000) :
    Calls Try.prog 26 #[v] w fun e w' => ∃ v', e = .returned v' ∧ RK 4 w' v' l.length (rows l) ∧ Below w.heap.size w w' ∧ ∀ k, blk v' = some k → w.heap.size ≤ k := by
  rcases h.2 with ⟨rfl, hn⟩ | ⟨g, cap, rfl, h2, h3, h4⟩
  · have HR := Kp.mk h
    clear h
    have q22 : ∀ (w : World) (a : Option Addr) (n c n' c' : Nat), (binOp .eql 34 (.slice a n c) (.slice none n' c')).run Try.prog w = .ok (.bool a.isNone) w := fun w a n c n' c' => Lib.run_eql_slice_nil w _ _ a n c n' c' Try.underlying34
    go_enter Try.func26, Try.ntmps26
    go_wp2
    go_ret
    exact ⟨.slice none 0 0, rfl, HR.out, Below.refl _ _, fun k hk => by simp [blk] at hk⟩
  · obtain ⟨i0, hi0, hi1, hi2, hi3⟩ := info_parts infoMail
    have HI := Kp.mk (And.intro hi0 (And.intro hi1 (And.intro hi2 hi3)))
    have HC : Kp (∀ o j u, (rows l)[j]? = some u → (w.alloc o).cell? ((⟨g, 0, none⟩ : Addr).add j) = some u) := ⟨fun o j u hu => by
      rw [Addr.add_lit, Nat.zero_add]
      exact (h.alloc o).cell j u hu⟩
    have HL := Kp.mk hl
    clear hi0 hi1 hi2 hi3 h h2 h3 h4 hl
    have q22 : ∀ (w : World) (a : Option Addr) (n c n' c' : Nat), (binOp .eql 34 (.slice a n c) (.slice none n' c')).run Try.prog w = .ok (.bool a.isNone) w := fun w a n c n' c' => Lib.run_eql_slice_nil w _ _ a n c n' c' Try.underlying34
    go_enter Try.func26, Try.ntmps26
    go_wp2_with (at_builtin; go_loud (refine wpList_append_rk rfl _ _ 34 rfl (RK.empty 4 _ w.heap.size) 38 i0 _ 40 Try.underlying34 HI.out.1 HI.out.2.1 HI.out.2.2.1 HI.out.2.2.2 rfl (by decide) ⟨g, 0, none⟩ cap rfl rfl (rows_len l) (HC.out _) (rows_one _) (by have := HL.out; unfold maxLen; omega) (by have := HL.out; omega) ?_; intro v' w' k1 k2 k3))
    have K1 : Kp (RK 4 w' v' l.length (rows l)) := ⟨by rw [Nat.zero_add, List.nil_append] at k1; exact k1⟩
    have K2 : Kp (Below w.heap.size w w') := ⟨((Below.refl _ _).alloc (Nat.le_refl _) _).grown k2 (by simp) (fun k hk => by simp [blk] at hk)⟩
    have K3 : Kp (∀ k, blk v' = some k → w.heap.size ≤ k) := ⟨fun k hk => by
      rcases k3 k hk with h | h
      · simp [blk] at h
      · simp at h; omega⟩
    clear k1 k2 k3
    go_wp2
    go_ret
    exact ⟨v', rfl, K1.out, K2.out, K3.out⟩
theorem Mails_any (g : Nat) (v : Value) (N : NetV) (w : World) (h : NetAt w g v N) (hl : N.l.length ≤ 1000000) :
    Calls Try.prog 13 #[.pointer (some ⟨g, 0, none⟩)] w fun e w' => ∃ v', e = .returned v' ∧ RK 4 w' v' N.l.length (rows N.l) ∧ Below w.heap.size w w' ∧ ∀ k, blk v' = some k → w.heap.size ≤ k := by
  have HC := Kp.mk (Clone_any v N.l w h.2.1 hl)
  have hc := h.c5
  clear h
  go_enter Try.func13, Try.ntmps13
  go_wp2_with fail
  refine HC.out.mono ?_
  rintro e w' ⟨v', rfl, k1, k2, k3⟩
  have K1 := Kp.mk k1
  have K2 := Kp.mk k2
  have K3 := Kp.mk k3
  clear k1 k2 k3
  go_wp2
  go_ret
  exact ⟨v', rfl, K1.out, K2.out, K3.out⟩
theorem atV_ok {N : NetV} {i : Nat} (h : i < N.l.length) : atV N i = 0 := by unfold atV; rw [if_neg (by omega)]
theorem atV_no {N : NetV} {i : Int} (h : i < 0 ∨ (N.l.length : Int) ≤ i) : atV N i = 5 := by unfold atV; rw [if_pos h]
/-- A place at which there is a message, or none. -/
theorem place (N : NetV) (i : Int) : (i < 0 ∨ (N.l.length : Int) ≤ i) ∨ ∃ k : Nat, i = k ∧ k < N.l.length := by
  by_cases h : i < 0 ∨ (N.l.length : Int) ≤ i
  · exact .inl h
  · exact .inr ⟨i.toNat, by omega, by omega⟩
def zeroMail : MailV := ⟨0, 0, 0, ⟨#[]⟩⟩
set_option maxRecDepth 20000 in
theorem Take_no (g : Nat) (v : Value) (N : NetV) (i : Int) (w : World) (h : NetAt w g v N) (hi : i < 0 ∨ (N.l.length : Int) ≤ i) :
    Calls Try.prog 16 #[.pointer (some ⟨g, 0, none⟩), .int .i64 i] w fun e w' => e = .returned (.tuple #[zeroMail.v, .int .i64 5]) ∧ Below w.heap.size w w' := by
  have HA := Kp.mk (fun o => at_any g v N i _ (h.alloc o))
  rw [atV_no hi] at HA
  clear h hi
  go_enter Try.func16, Try.ntmps16
  go_wp2_with fail
  refine (HA.out _).mono ?_
  rintro e w' ⟨rfl, rfl⟩
  go_wp2
  refine bodyPost_ret (v := .tuple #[zeroMail.v, .int .i64 5]) (by simp [results, Try.results16, go_sem, MailV.v, zeroMail]) rfl ⟨rfl, (Below.refl _ _).alloc (Nat.le_refl _) _⟩
set_option maxRecDepth 20000 in
theorem Take_go (g : Nat) (v : Value) (N : NetV) (i : Nat) (w : World) (h : NetAt w g v N) (hi : i < N.l.length) (hs : Sm N 1000000000000) :
    Calls Try.prog 16 #[.pointer (some ⟨g, 0, none⟩), .int .i64 i] w fun e w' => e = .returned (.tuple #[N.l[i].v, .int .i64 0]) ∧ ∃ v', NetAt w' g v' { N with taken := N.taken + 1, l := outL N.l i } ∧ Upd w w' g v v' := by
  have HA := Kp.mk (fun o => at_any g v N i _ (h.alloc o))
  rw [atV_ok hi] at HA
  obtain ⟨s1, s2, ⟨s3, s4⟩, s5, s6, s7⟩ := hs
  have c2 : ∀ o, (w.alloc o).cell? ⟨g, 2, none⟩ = some (.int .i64 N.taken) := fun o => (h.alloc o).c2
  have f2 : ∀ o, (w.alloc o).frozen? ⟨g, 2, none⟩ = false := fun o => (h.alloc o).free 2
  have hS := h.set2 (N.taken + 1)
  have HO := Kp.mk (fun o => out_any g v { N with taken := N.taken + 1 } i _ (hS.alloc o) hi s7)
  have hgz := h.lt
  clear h
  go_enter Try.func16, Try.ntmps16
  go_wp2_with fail
  refine (HA.out _).mono ?_
  rintro e w' ⟨rfl, rfl⟩
  go_wp2_with fail
  refine (HO.out _).mono ?_
  rintro e w1 ⟨rfl, v', k1, k2⟩
  obtain ⟨a1, a2, a3, a4, a5, a6⟩ := k2
  have hz : (w.heap.size : Nat) < ((w.setCell ⟨g, 2, none⟩ (.int .i64 (N.taken + 1))).alloc (.cells #[.int .i64 0, .int .i64 0, .int .i64 0, .string ⟨#[]⟩] 38)).heap.size := by simp
  have hH : w1.heap[w.heap.size]? = some (.cells #[.int .i64 0, .int .i64 0, .int .i64 0, .string ⟨#[]⟩] 38 (0, 0)) := by
    rw [a5 w.heap.size hz (by omega) (fun e => by have := hS.2.1.lt _ e; simp at this)]
    have := heap_alloc_new (w.setCell ⟨g, 2, none⟩ (.int .i64 (N.taken + 1))) (.cells #[.int .i64 0, .int .i64 0, .int .i64 0, .string ⟨#[]⟩] 38)
    rw [show (w.setCell ⟨g, 2, none⟩ (.int .i64 (N.taken + 1))).heap.size = w.heap.size from by simp] at this
    exact this
  obtain ⟨⟨m0, m1, m2, m3⟩, m4⟩ := cells4 hH
  have K1 := Kp.mk k1
  have K2 : Kp (Upd w w1 g v v') := ⟨((Upd.set _ _ _ _ _).trans (Upd.of_below ((Below.refl _ _).alloc (Nat.le_refl _) _) _ _)).trans ⟨a1, a2, a3, a4, a5, a6⟩⟩
  have K3 : Kp (∀ k, blk v' = some k → k ≠ w.heap.size) := ⟨fun k hk e => by
    rcases a6 k hk with h1 | h1
    · have := hS.2.1.lt _ h1; simp at this; omega
    · rw [e] at h1; omega⟩
  clear a1 a2 a3 a4 a5 a6 hz k1 hH hS
  unfold MailV.v
  go_wp2
  refine bodyPost_ret (v := .tuple #[.agg #[.int .i64 N.l[i].id, .int .i64 N.l[i].frm, .int .i64 N.l[i].to, .string N.l[i].data], .int .i64 0]) (by simp [results, Try.results16, go_sem, m0, m1, m2, m3]) rfl ⟨rfl, v', K1.out.far4 _ (by omega) K3.out _ _ _ _, K2.out.far4 _ (Nat.le_refl _) _ _ _ _⟩
/-- What Take answers, and leaves. -/
def takeV (N : NetV) (i : Int) : (MailV × Int) × NetV :=
  if i < 0 ∨ (N.l.length : Int) ≤ i then ((zeroMail, 5), N) else ((N.l.getD i.toNat zeroMail, 0), { N with taken := N.taken + 1, l := outL N.l i.toNat })
theorem Take_any (g : Nat) (v : Value) (N : NetV) (i : Int) (w : World) (h : NetAt w g v N) (hs : Sm N 1000000000000) :
    Calls Try.prog 16 #[.pointer (some ⟨g, 0, none⟩), .int .i64 i] w fun e w' => e = .returned (.tuple #[(takeV N i).1.1.v, .int .i64 (takeV N i).1.2]) ∧ ∃ v', NetAt w' g v' (takeV N i).2 ∧ Upd w w' g v v' := by
  rcases place N i with hi | ⟨k, rfl, hk⟩
  · refine (Take_no g v N i w h hi).mono fun e w' ⟨he, hb⟩ => ?_
    unfold takeV
    rw [if_pos hi]
    exact ⟨he, v, h.below hb, Upd.of_below hb g v⟩
  · refine (Take_go g v N k w h hk hs).mono fun e w' ⟨he, hv⟩ => ?_
    unfold takeV
    rw [if_neg (by omega)]
    simp only [Int.toNat_natCast, List.getD_eq_getElem?_getD, List.getElem?_eq_getElem hk, Option.getD_some]
    exact ⟨he, hv⟩
def loseV (N : NetV) (i : Int) : Int × NetV :=
  if i < 0 ∨ (N.l.length : Int) ≤ i then (5, N) else (0, { N with lost := N.lost + 1, l := outL N.l i.toNat })
set_option maxRecDepth 20000 in
theorem Lose_any (g : Nat) (v : Value) (N : NetV) (i : Int) (w : World) (h : NetAt w g v N) (hs : Sm N 1000000000000) :
    Calls Try.prog 18 #[.pointer (some ⟨g, 0, none⟩), .int .i64 i] w fun e w' => e = .returned (.int .i64 (loseV N i).1) ∧ ∃ v', NetAt w' g v' (loseV N i).2 ∧ Upd w w' g v v' := by
  have HA := Kp.mk (at_any g v N i w h)
  rcases place N i with hi | ⟨k, rfl, hk⟩
  · rw [atV_no hi] at HA
    have hV : Kp (loseV N i = (5, N)) := ⟨by unfold loseV; rw [if_pos hi]⟩
    have H := Kp.mk h
    clear h hi
    go_enter Try.func18, Try.ntmps18
    go_wp2_with fail
    refine HA.out.mono ?_
    rintro e w' ⟨rfl, rfl⟩
    go_wp2
    go_ret
    exact ⟨by rw [hV.out]; rfl, v, by rw [hV.out]; exact H.out, Upd.refl _ _ _⟩
  · rw [atV_ok hk] at HA
    have hV : Kp (loseV N k = (0, { N with lost := N.lost + 1, l := outL N.l k })) := ⟨by unfold loseV; rw [if_neg (by omega), Int.toNat_natCast]⟩
    obtain ⟨s1, s2, s3, ⟨s4, s5⟩, s6, s7⟩ := hs
    have c3 := h.c3
    have f3 := h.free 3
    have HO := Kp.mk (out_any g v { N with lost := N.lost + 1 } k _ (h.set3 (N.lost + 1)) hk s7)
    clear h
    go_enter Try.func18, Try.ntmps18
    go_wp2_with fail
    refine HA.out.mono ?_
    rintro e w' ⟨rfl, rfl⟩
    go_wp2_with fail
    refine HO.out.mono ?_
    rintro e w1 ⟨rfl, v', k1, k2⟩
    have K1 := Kp.mk k1
    have K2 := Kp.mk ((Upd.set _ _ _ _ _).trans k2)
    clear k1 k2
    go_wp2
    go_ret
    exact ⟨by rw [hV.out]; rfl, v', by rw [hV.out]; exact K1.out, K2.out⟩
def twiceV (N : NetV) (i : Int) : (Int × Int) × NetV :=
  if i < 0 ∨ (N.l.length : Int) ≤ i then ((0, 5), N)
  else if 256 ≤ N.l.length then ((0, 44), N)
  else ((N.last + 1, 0), { N with doubled := N.doubled + 1, last := N.last + 1, l := N.l ++ [⟨N.last + 1, (N.l.getD i.toNat zeroMail).frm, (N.l.getD i.toNat zeroMail).to, (N.l.getD i.toNat zeroMail).data⟩] })
set_option maxRecDepth 20000 in
set_option maxHeartbeats 1000000 in
theorem Twice_any (g : Nat) (v : Value) (N : NetV) (i : Int) (w : World) (h : NetAt w g v N) (hs : Sm N 1000000000000) :
    Calls Try.prog 14 #[.pointer (some ⟨g, 0, none⟩), .int .i64 i] w fun e w' => e = .returned (.tuple #[.int .i64 (twiceV N i).1.1, .int .i64 (twiceV N i).1.2]) ∧ ∃ v', NetAt w' g v' (twiceV N i).2 ∧ Upd w w' g v v' := by
  have HA := Kp.mk (at_any g v N i w h)
  rcases place N i with hi | ⟨k, rfl, hk⟩
  · rw [atV_no hi] at HA
    have hV : Kp (twiceV N i = ((0, 5), N)) := ⟨by unfold twiceV; rw [if_pos hi]⟩
    have H := Kp.mk h
    clear h hi
    go_enter Try.func14, Try.ntmps14
    go_wp2_with fail
    refine HA.out.mono ?_
    rintro e w' ⟨rfl, rfl⟩
    go_wp2
    go_ret2
    exact ⟨by rw [hV.out]; rfl, v, by rw [hV.out]; exact H.out, Upd.refl _ _ _⟩
  · rw [atV_ok hk] at HA
    obtain ⟨g', cap, hv, b1, b2, b3, b4⟩ := h.2.1.at_ (Nat.lt_of_le_of_lt (Nat.zero_le _) hk)
    unfold maxLen at b2
    subst hv
    have c5 := h.c5
    by_cases h4 : 256 ≤ N.l.length
    · have hV : Kp (twiceV N k = ((0, 44), N)) := ⟨by unfold twiceV; rw [if_neg (by omega), if_pos h4]⟩
      have t2 : decide ((256 : Int) ≤ (N.l.length : Int)) = true := by rw [decide_eq_true_eq]; omega
      have H := Kp.mk h
      clear h hk
      go_enter Try.func14, Try.ntmps14
      go_wp2_with fail
      refine HA.out.mono ?_
      rintro e w' ⟨rfl, rfl⟩
      go_wp2
      go_ret2
      exact ⟨by rw [hV.out]; rfl, _, by rw [hV.out]; exact H.out, Upd.refl _ _ _⟩
    · have hV : Kp (twiceV N k = ((N.last + 1, 0), { N with doubled := N.doubled + 1, last := N.last + 1, l := N.l ++ [⟨N.last + 1, N.l[k].frm, N.l[k].to, N.l[k].data⟩] })) := ⟨by
        unfold twiceV
        rw [if_neg (by omega), if_neg h4]
        simp only [Int.toNat_natCast, List.getD_eq_getElem?_getD, List.getElem?_eq_getElem hk, Option.getD_some]⟩
      have t2 : decide ((256 : Int) ≤ (N.l.length : Int)) = false := by rw [decide_eq_false_iff_not]; omega
      obtain ⟨s1, ⟨s2, s3⟩, s4, s5, ⟨s6, s7⟩, s8⟩ := hs
      have c1 := h.c1
      have f1 := h.free 1
      have hS := h.set1 (N.doubled + 1)
      have d5 := hS.c5
      obtain ⟨r0, r1, r2, r3⟩ := rows_get N.l k hk
      have q0 := hS.2.1.cell _ _ r0
      have q1 := hS.2.1.cell _ _ r1
      have q2 := hS.2.1.cell _ _ r2
      have q3 := hS.2.1.cell _ _ r3
      have HP := Kp.mk (put_any g _ { N with doubled := N.doubled + 1 } N.l[k] _ hS (by show N.l.length ≤ _; omega) s6 s7)
      generalize N.l[k] = m at q0 q1 q2 q3 HP hV
      obtain ⟨mi, mf, mt, md⟩ := m
      have H := Kp.mk h
      clear h r0 r1 r2 r3 hS
      go_enter Try.func14, Try.ntmps14
      go_wp2_with fail
      refine HA.out.mono ?_
      rintro e w' ⟨rfl, rfl⟩
      go_wp2_with fail
      refine HP.out.mono ?_
      rintro e w1 ⟨rfl, v', k1, k2⟩
      have K1 := Kp.mk k1
      have K2 := Kp.mk ((Upd.set _ _ _ _ _).trans k2)
      clear k1 k2
      go_wp2
      go_ret2
      exact ⟨by rw [hV.out]; rfl, v', by rw [hV.out]; exact K1.out, K2.out⟩
end Go.Proofs.Ytdhpnhdokkhnlaa
