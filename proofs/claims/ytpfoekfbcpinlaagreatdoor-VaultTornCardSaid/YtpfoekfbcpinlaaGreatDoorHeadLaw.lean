/- frame.Scan: a range over the iterator. -/
import Derived.Test.YtpfoekfbcpinlaaGreatDoorScanL
import Derived.RegionIn
import Derived.Test.YtpfoekfbcpinlaaGreatDoorFrameRead
import Derived.Deep.RegionWith
import Derived.Test.YtpfoekfbcpinlaaGreatDoorHeadSame
namespace Go.Proofs.YtpfoekfbcpinlaaGreatDoor
open Go.RowKit
set_option linter.unusedVariables false

theorem frames_any (s : ByteArray) (a : Int) (w : World) :
    Calls Tryz.prog 130 #[.string s, .int .i64 a] w fun e w' => e = .returned (.func (.func 140) #[] #[.pointer (some ⟨w.heap.size, 0, none⟩), .pointer (some ⟨w.heap.size + 1, 0, none⟩)]) ∧ w' = (w.alloc (.cells #[.string s] 9)).alloc (.cells #[.int .i64 a] 3) := by
  go_enter Tryz.func130, Tryz.ntmps130
  go_wp2
  go_ret
  exact ⟨rfl, rfl⟩
theorem heap4 (w : World) (o0 o1 o2 o3 : Obj) : ((((w.alloc o0).alloc o1).alloc o2).alloc o3).heap[w.heap.size]? = some o0 ∧ ((((w.alloc o0).alloc o1).alloc o2).alloc o3).heap[w.heap.size + 1]? = some o1 ∧ ((((w.alloc o0).alloc o1).alloc o2).alloc o3).heap[w.heap.size + 2]? = some o2 ∧ ((((w.alloc o0).alloc o1).alloc o2).alloc o3).heap[w.heap.size + 3]? = some o3 := by
  have e1 := heap_alloc_new w o0
  have e2 := heap_alloc_new (w.alloc o0) o1
  have e3 := heap_alloc_new ((w.alloc o0).alloc o1) o2
  have e4 := heap_alloc_new (((w.alloc o0).alloc o1).alloc o2) o3
  simp only [World.size_alloc] at e2 e3 e4
  refine ⟨?_, ?_, ?_, e4⟩
  · rw [Below.heap_alloc _ o3 _ (by simp <;> omega), Below.heap_alloc _ o2 _ (by simp <;> omega), Below.heap_alloc _ o1 _ (by simp)]; exact e1
  · rw [Below.heap_alloc _ o3 _ (by simp <;> omega), Below.heap_alloc _ o2 _ (by simp)]; exact e2
  · rw [Below.heap_alloc _ o3 _ (by simp)]; exact e3
/-- Between two rounds of Scan's loop. -/
structure ScanJ (w : World) (p0 : Nat) (L : Loop) (pre : List FrV) (W : World) (v : Value) : Prop where
  out : W.heap[w.heap.size]? = some (.cells #[v] 144 (0, 0))
  row : RK 3 W v pre.length (pre.flatMap FrV.cells)
  new : ∀ k, blk v = some k → w.heap.size + 5 < k
  good : W.heap[w.heap.size + 1]? = some (.cells #[.int .i64 (good p0 pre : Nat)] 3 (0, 0))
  record : W.heap[w.heap.size + 5]? = some (.loop L)
  defers : W.heap[w.heap.size + 4]? = some (.deferred (some []))
  below : Below w.heap.size w W
theorem infoFrame : (Tryz.prog.info? 141).map (fun i => (i.zero, i.size, i.bytes)) = some (some (.agg #[.int .u8 0, .string ⟨#[]⟩, .int .i64 0]), 3, 32) := by kernel_rfl
theorem wpListIn_append_src {F : Fence} {fu : Nat} {P : Program} {w : World} {v u : Value} {z n m : Nat} {cs ks : List Value} {ops : Array Oper} {rest : List Oper} {o : Oper} {a : Act} {Q : Exit → Act → World → Prop} (hgd : o.guard = none) (s x : Operand) (T : TypeId) (ho : o.op = .call { callee := .builtin .append, args := #[s, x], argTypes := #[T, T] })
    (h : RK z w v n cs) (hu : Src z w u m ks) (E : TypeId) (i : TypeInfo) (zero : Value) (bytes : Nat) (hT : P.underlying T = some (.slice E)) (hi : P.info? E = some i) (hz : i.zero = some zero) (hsz : i.size = z) (hby : i.bytes = bytes) (hzs : zero.cells.size = z) (hz0 : 0 < z)
    (hs : a.eval s = v) (hx : a.eval x = u) (h1 : ∀ u ∈ ks, u.oneCell' = true) (h63 : n + m ≤ maxLen) (hbytes : (n + m) * bytes ≤ 140737488355328) (p : Nat) (ls : List Value) (hp : n + m = p) (hl : cs ++ ks = ls)
    (hK : ∀ ao cap w', RK z w' (.slice ao p cap) p ls → w.grownBy w' (blk v) → Fresh w v (.slice ao p cap) → wpListIn F fu P ops Q rest (a.put o.dst (.slice ao p cap)) w') : wpListIn F fu P ops Q (o :: rest) a w := by
  refine wpListIn_plain hgd fun K hK' => ?_
  obtain ⟨ao, cap, w', hr, k1, k2, k3⟩ := run_append_src h hu T o.type E i zero bytes hT hi hz hsz hby hzs hz0 h1 h63 hbytes p ls hp hl
  unfold Oper.wpIn
  refine ⟨?_, ?_⟩
  · simp [Oper.about, ho, resolve, Target.leads, Sem.run_pure]
  · rw [Oper.semAt_plain F _ _ (by rw [ho]; intro c hc'; cases hc')]
    simp [execOp, ho, resolve, invoke, builtin, hs, hx, hr, Result.andThen]
    exact hK' _ _ (hK ao cap w' k1 k2 k3)
theorem lt_of_heap {W : World} {k : Nat} {o : Obj} (h : W.heap[k]? = some o) : k < W.heap.size := (Array.getElem?_eq_some_iff.1 h).1
theorem ScanJ.later {w W W' : World} {p0 : Nat} {L : Loop} {pre : List FrV} {v : Value} (h : ScanJ w p0 L pre W v) (hb : Below W.heap.size W W') : ScanJ w p0 L pre W' v :=
  ⟨by rw [hb.block _ (lt_of_heap h.out)]; exact h.out, h.row.below hb, h.new, by rw [hb.block _ (lt_of_heap h.good)]; exact h.good, by rw [hb.block _ (lt_of_heap h.record)]; exact h.record,
    by rw [hb.block _ (lt_of_heap h.defers)]; exact h.defers, h.below.trans (hb.mono h.below.size)⟩
theorem ScanJ.set {w W : World} {p0 : Nat} {L : Loop} {pre : List FrV} {v : Value} (h : ScanJ w p0 L pre W v) (u : Value) : ScanJ w p0 L pre (W.setCell ⟨w.heap.size + 3, 0, none⟩ u) v :=
  ⟨(Below.heap_setCell W _ u _ (by simp)).trans h.out, h.row.set _ _ (fun k hk => by have := h.new k hk; simp; omega), h.new, (Below.heap_setCell W _ u _ (by simp)).trans h.good, (Below.heap_setCell W _ u _ (by simp)).trans h.record,
    (Below.heap_setCell W _ u _ (by simp)).trans h.defers, h.below.setCell (p := ⟨w.heap.size + 3, 0, none⟩) (by simp) u⟩
/-- A range over a function, on the wide fence, as far as the call of the function. -/
theorem range_enter {F : Fence} {P : Program} {n : Nat} {g : Operand} {ps : Array Tmp} {assign body : Code} {Q : Exit → Act → World → Prop} {a : Act} {W0 : World} {gf : Nat} {lb : Array Value} (hro : F.round = none) (hFg : F.fn gf) (hg : a.eval g = .func (.func gf) #[] lb) (eg : ∀ args w, (callFunc gf args).run P w = .ok (.enter gf args) w)
    (h : ∀ (fn : FuncId) (L : Loop), L = { state := .ready, pending := none, fn, tmps := a.tmps, params := ps, assign, body, defers := W0.heap.size } →
      CallsIn F (n - 1) P gf (#[.func (.yield (W0.heap.size + 1)) #[] #[]] ++ lb) ((W0.alloc (.deferred (some []))).alloc (.loop L)) (rangePost F n P (W0.heap.size + 1) Q { a with defers := [{ target := .collected W0.heap.size, args := #[] }] ++ a.defers })) (h1 : 1 ≤ n) :
    (Code.rangeFunc g ps assign body).wpIn F n P Q a W0 := by
  refine wpIn_rangeFunc ?_
  intro fn hfn
  rw [hro]
  obtain ⟨L, hL⟩ : ∃ L : Loop, L = { state := .ready, pending := none, fn, tmps := a.tmps, params := ps, assign, body, defers := W0.heap.size } := ⟨_, rfl⟩
  have he := run_enterLoop_outer (P := P) (w := W0) fn a.tmps ps assign body
  rw [← hL] at he
  have hc := h fn L hL
  clear h
  obtain ⟨W1, hW1⟩ : ∃ W1, (W0.alloc (.deferred (some []))).alloc (.loop L) = W1 := ⟨_, rfl⟩
  rw [hW1] at he hc
  refine ⟨W0.heap.size + 1, ?_⟩
  refine ⟨[{ target := .collected W0.heap.size, args := #[] }], ?_⟩
  refine ⟨W1, ?_⟩
  refine ⟨{ target := .fn (.func gf) lb, args := #[.func (.yield (W0.heap.size + 1)) #[] #[]] }, ?_⟩
  refine ⟨W1, ?_⟩
  refine ⟨gf, ?_⟩
  refine ⟨#[.func (.yield (W0.heap.size + 1)) #[] #[]] ++ lb, ?_⟩
  refine ⟨W1, ?_⟩
  refine ⟨he, ?_⟩
  refine ⟨?_, ?_⟩
  · simp only [resolve, hg]
    simp [go_sem]
  refine ⟨?_, ?_⟩
  · intro f' hf'; simp [Target.leads] at hf'; subst hf'; exact hFg
  refine ⟨?_, ?_⟩
  · simp [invoke, go_sem, eg]
  exact ⟨fun _ => h1, hc⟩
theorem scan_core (s : ByteArray) (p0 : Nat) (w : World) (L : Loop) (hs : s.size ≤ 1000000000000) (hp : p0 ≤ s.size) (ht : Tab w) (hpr : L.params.size = 2)
    (hround : ∀ (pre : List FrV) (x : FrV) (W : World) (v : Value), 9 * pre.length ≤ s.size → ScanJ w p0 L pre W v → RoundIn Fence.wide 2 Tryz.prog (w.heap.size + 5) L.fn ((L.params.zip #[x.v, .int .i64 (x.next : Nat)]).foldl (fun t (q, u) => t.setIfInBounds q u) L.tmps) L.assign L.body W
      fun e W' => e = .returned (.bool true) ∧ (∃ v', ScanJ w p0 L (pre ++ [x]) W' v') ∧ W'.heap[w.heap.size + 2]? = W.heap[w.heap.size + 2]? ∧ W'.heap[w.heap.size + 3]? = W.heap[w.heap.size + 3]? ∧ W.heap.size ≤ W'.heap.size)
    (W : World) (hBs : W.heap[w.heap.size + 2]? = some (.cells #[.string s] 9 (0, 0))) (hBa : W.heap[w.heap.size + 3]? = some (.cells #[.int .i64 p0] 3 (0, 0))) (h0 : ScanJ w p0 L [] W (.slice none 0 0)) :
    CallsIn Fence.wide 3 Tryz.prog 140 #[.func (.yield (w.heap.size + 5)) #[] #[], .pointer (some ⟨w.heap.size + 2, 0, none⟩), .pointer (some ⟨w.heap.size + 3, 0, none⟩)] W fun e W' => (∃ v, e = .returned v) ∧ ∃ v, ScanJ w p0 L (scanL s.data.toList p0).1 W' v :=
  frames_in (w.heap.size + 5) (w.heap.size + 2) (w.heap.size + 3) s p0 (by omega) (fun pre W => ∃ v, ScanJ w p0 L pre W v)
    (fun pre W W' ⟨v, h⟩ hb => ⟨v, h.later hb⟩) (fun pre W u ⟨v, h⟩ => ⟨v, h.set u⟩) (fun pre W ⟨v, h⟩ => ht.below h.below)
    (fun pre x W hl ⟨v, h⟩ => ⟨_, _, _, _, run_yield h.record (by rw [hpr]; rfl), hround pre x W v hl h⟩) W hp (by omega) hBs hBa ⟨_, h0⟩
attribute [local go_sem] Oper.semAt_some
set_option maxRecDepth 100000 in
set_option maxHeartbeats 2000000 in
theorem Scan_in (s : ByteArray) (p0 : Nat) (w : World) (hs : s.size ≤ 1000000000000) (hp : p0 ≤ s.size) (ht : Tab w) :
    Calls Tryz.prog 118 #[.string s, .int .i64 p0] w fun e w' => ∃ v, e = .returned (.tuple #[v, .int .i64 (scanL s.data.toList p0).2]) ∧ RK 3 w' v (scanL s.data.toList p0).1.length ((scanL s.data.toList p0).1.flatMap FrV.cells) ∧ (∀ k, blk v = some k → w.heap.size ≤ k) ∧ Below w.heap.size w w' := by
  refine (callsIn_wide (n := 4)).1 ?_
  refine callsIn_of_wp_marks Tryz.func118 rfl trivial ?_ rfl
  simp only [Tryz.ntmps118, List.size_toArray, List.length_cons, List.length_nil, Nat.reduceAdd, Nat.reduceSub, Array.replicate_succ, Array.replicate_zero, List.push_toArray, List.append_toArray, List.nil_append, List.cons_append]
  have t1 : decide ((p0 : Int) < 0) = false := by rw [decide_eq_false_iff_not]; omega
  have t2 : decide ((s.size : Int) < (p0 : Int)) = false := by rw [decide_eq_false_iff_not]; omega
  have t3 : decide (s.size < p0) = false := by rw [decide_eq_false_iff_not]; omega
  gi_wp2
  refine ⟨trivial, ?_⟩
  refine (callsIn_wide.2 (frames_any s p0 _)).mono ?_
  rintro e w1 ⟨rfl, rfl⟩
  gi_wp2
  obtain ⟨W0, hW0⟩ : ∃ W0, ((((w.alloc (.cells #[.slice none 0 0] 144)).alloc (.cells #[.int .i64 (p0 : Nat)] 3)).alloc (.cells #[.string s] 9)).alloc (.cells #[.int .i64 (p0 : Nat)] 3)) = W0 := ⟨_, rfl⟩
  have hB0 : Below w.heap.size w W0 := by rw [← hW0]; exact ((((Below.refl _ w).alloc (by simp) _).alloc (by simp) _).alloc (by simp <;> omega) _).alloc (by simp <;> omega) _
  have hz0 : W0.heap.size = w.heap.size + 4 := by rw [← hW0]; simp
  have hh0 : W0.heap[w.heap.size]? = some (.cells #[.slice none 0 0] 144 (0, 0)) ∧ W0.heap[w.heap.size + 1]? = some (.cells #[.int .i64 (p0 : Nat)] 3 (0, 0)) ∧ W0.heap[w.heap.size + 2]? = some (.cells #[.string s] 9 (0, 0)) ∧ W0.heap[w.heap.size + 3]? = some (.cells #[.int .i64 (p0 : Nat)] 3 (0, 0)) := by
    rw [← hW0]
    exact heap4 _ _ _ _ _
  rw [hW0]
  refine range_enter (F := Fence.wide) (gf := 140) (lb := #[.pointer (some ⟨w.heap.size + 2, 0, none⟩), .pointer (some ⟨w.heap.size + 3, 0, none⟩)]) rfl trivial rfl (enters_of Tryz.func140 (by kernel_rfl) rfl) ?_ (by decide)
  intro fn L hL
  rw [show W0.heap.size + 1 = w.heap.size + 5 from by omega, hz0]
  have hz1 : (W0.alloc (.deferred (some []))).heap.size = w.heap.size + 5 := by rw [World.size_alloc]; omega
  have hz2 : ((W0.alloc (.deferred (some []))).alloc (.loop L)).heap.size = w.heap.size + 6 := by rw [World.size_alloc, hz1]
  have hb2 : Below W0.heap.size W0 ((W0.alloc (.deferred (some []))).alloc (.loop L)) := ((Below.refl _ _).alloc (Nat.le_refl _) _).alloc (by simp) _
  have hD := heap_alloc_new W0 (.deferred (some []))
  have hLo := heap_alloc_new (W0.alloc (.deferred (some []))) (.loop L)
  rw [hz0] at hD
  rw [hz1] at hLo
  have hD2 : ((W0.alloc (.deferred (some []))).alloc (.loop L)).heap[w.heap.size + 4]? = some (.deferred (some [])) := by rw [Below.heap_alloc _ _ _ (by omega)]; exact hD
  refine (scan_core s p0 w L hs hp ht (by rw [hL]; rfl) ?round _ ?hbs ?hba ?h0).mono ?_
  case hbs => rw [hb2.block _ (by omega)]; exact hh0.2.2.1
  case hba => rw [hb2.block _ (by omega)]; exact hh0.2.2.2
  case h0 => exact ⟨by rw [hb2.block _ (by omega)]; exact hh0.1, RK.nil _ _, fun k hk => by simp [blk] at hk, by rw [hb2.block _ (by omega)]; exact hh0.2.1, hLo, hD2, hB0.trans (hb2.mono (by omega))⟩
  case round =>
    intro pre x W v hl hj
    have HJ := Kp.mk hj
    have HLq := Kp.mk hL
    obtain ⟨R, hR⟩ : ∃ R : Ending → World → Prop, R = fun e W' => e = .returned (.bool true) ∧ (∃ v', ScanJ w p0 L (pre ++ [x]) W' v') ∧ W'.heap[w.heap.size + 2]? = W.heap[w.heap.size + 2]? ∧ W'.heap[w.heap.size + 3]? = W.heap[w.heap.size + 3]? ∧ W.heap.size ≤ W'.heap.size := ⟨_, rfl⟩
    rw [← hR]
    have HR := Kp.mk hR
    obtain ⟨k, y, a⟩ := x
    obtain ⟨N, hN⟩ : ∃ N, (⟨k, y, a⟩ : FrV).next = N := ⟨_, rfl⟩
    rw [hN]
    unfold FrV.v
    rw [hL]
    have hzW := hj.below.size
    have hsz5 := lt_of_heap hj.record
    clear hR hj hL hLo hD2 hD hb2 hh0 hW0 hz2 hz1
    refine roundIn_of_wpIn trivial ?_
    simp only []
    gi_wp2
    obtain ⟨Wf, hWf⟩ : ∃ Wf, W.alloc (.cells #[.int .u8 k, .string (B y), .int .i64 a] 141) = Wf := ⟨_, rfl⟩
    have hbf : Below W.heap.size W Wf := by rw [← hWf]; exact (Below.refl _ _).alloc (Nat.le_refl _) _
    have hff : Wf.heap[W.heap.size]? = some (.cells #[.int .u8 k, .string (B y), .int .i64 a] 141 (0, 0)) := by rw [← hWf]; exact heap_alloc_new _ _
    have hzf : Wf.heap.size = W.heap.size + 1 := by rw [← hWf]; simp
    rw [hWf]
    have hj1 := HJ.out.later hbf
    refine ⟨_, run_beginRound hj1.record (by rw [HLq.out]), ?_⟩
    obtain ⟨W2, hW2⟩ : ∃ W2, Wf.putObj (w.heap.size + 5) (.loop { L with state := .busy }) = W2 := ⟨_, rfl⟩
    have hk2 : ∀ q, q ≠ w.heap.size + 5 → W2.heap[q]? = Wf.heap[q]? := fun q hq => by rw [← hW2]; exact World.putObj_heap_other hq
    have hz2 : W2.heap.size = W.heap.size + 1 := by rw [← hW2, World.putObj_size, hzf]
    have hrec2 := Kp.mk (show W2.heap[w.heap.size + 5]? = some (.loop { L with state := .busy }) from by rw [← hW2]; exact World.putObj_heap_same (by omega))
    have hrow2 := Kp.mk (hj1.row.same (w' := W2) (by omega) (fun q hq => hk2 q (by have := hj1.new q hq; omega)))
    have hb2 := Kp.mk (show Below w.heap.size w W2 from by rw [← hW2]; exact hj1.below.trans ((Below.refl _ _).grown (grownBy_putObj' _ _ _) (by omega) (fun q e => by cases e; omega)))
    have o2 := Kp.mk ((hk2 w.heap.size (by omega)).trans hj1.out)
    have g2 := Kp.mk ((hk2 (w.heap.size + 1) (by omega)).trans hj1.good)
    have d2 := Kp.mk ((hk2 (w.heap.size + 4) (by omega)).trans hj1.defers)
    have f2 := (hk2 W.heap.size (by omega)).trans hff
    have s2 := Kp.mk ((hk2 (w.heap.size + 2) (by omega)).trans (hbf.block _ (by omega)))
    have s3 := Kp.mk ((hk2 (w.heap.size + 3) (by omega)).trans (hbf.block _ (by omega)))
    have HN := Kp.mk hj1.new
    rw [hW2]
    clear hW2 hk2 hj1 hff hzf hbf hWf
    obtain ⟨⟨x0, x1, x2⟩, x3⟩ := cells3 f2
    have c0 : W2.cell? ⟨w.heap.size, 0, none⟩ = some v := by simp [World.cell?, o2.out]
    obtain ⟨i0, hi0, hi1, hi2, hi3⟩ := info_parts infoFrame
    have HI := Kp.mk (And.intro hi0 (And.intro hi1 (And.intro hi2 hi3)))
    clear hi0 hi1 hi2 hi3
    clear f2
    have HIN := Kp.mk (show Src 3 (W2.alloc (.cells #[.int .u8 k, .string (B y), .int .i64 a] 141)) (.slice (some ⟨W2.heap.size, 0, none⟩) 1 1) 1 [.int .u8 k, .string (B y), .int .i64 a] from src_one (heap_alloc_new _ _) rfl)
    have HRW := Kp.mk (hrow2.out.alloc (.cells #[.int .u8 k, .string (B y), .int .i64 a] 141))
    have HML := Kp.mk (show pre.length + 1 ≤ maxLen from by unfold maxLen; omega)
    have hlw := hb2.out.size
    have HZ2 := Kp.mk hz2
    have hw5 : w.heap.size + 5 < W2.heap.size := by omega
    clear hz2 hsz5
    gi_wp2_with (gi_at_builtin; go_loud (refine wpListIn_append_src rfl _ _ 144 rfl HRW.out HIN.out 141 i0 _ 32 Tryz.underlying144 HI.out.1 HI.out.2.1 HI.out.2.2.1 HI.out.2.2.2 rfl (by decide) rfl rfl (by simp [Value.oneCell']) HML.out (by have := HML.out; omega) _ _ rfl rfl ?_; intro ao cap w3 k1 k2 k3; have K1 := Kp.mk k1; have K2 := Kp.mk k2; have K3 := Kp.mk k3; have q0 : w3.heap[w.heap.size]? = some (.cells #[v] 144 (0, 0)) := (by rw [k2.block _ (by simp; omega) (fun e => by have := HN.out _ e.symm; omega), Below.heap_alloc _ _ _ (by omega)]; exact o2.out); have q1 : w3.heap[w.heap.size + 1]? = some (.cells #[.int .i64 (good p0 pre : Nat)] 3 (0, 0)) := (by rw [k2.block _ (by simp; omega) (fun e => by have := HN.out _ e.symm; omega), Below.heap_alloc _ _ _ (by omega)]; exact g2.out); have Q0 := Kp.mk q0; have Q1 := Kp.mk q1; have r0 : w3.cell? ⟨w.heap.size, 0, none⟩ = some v := (by simp [World.cell?, q0]); have r1 : w3.cell? ⟨w.heap.size + 1, 0, none⟩ = some (.int .i64 (good p0 pre : Nat)) := (by simp [World.cell?, q1]); have r2 : w3.frozen? ⟨w.heap.size, 0, none⟩ = false := (by simp [World.frozen?, q0]); have r3 : w3.frozen? ⟨w.heap.size + 1, 0, none⟩ = false := (by simp [World.frozen?, q1]); clear k1 k2 k3 q0 q1))
    clear r0 r1 r2 r3 c0 x0 x1 x2 x3
    have hz2 := HZ2.out
    have hbd : ∀ q, blk v = some q → w.heap.size + 5 < q := HN.out
    have hold : ∀ q, q ≤ w.heap.size + 5 → w3.heap[q]? = W2.heap[q]? := fun q hq => by
      rw [K2.out.block _ (by simp; omega) (fun e => by have := hbd _ e.symm; omega), Below.heap_alloc _ _ _ (by omega)]
    have hvb : ∀ q, blk (.slice ao (pre.length + 1) cap) = some q → w.heap.size + 5 < q := fun q hq => by
      rcases K3.out q hq with h | h
      · exact hbd q h
      · simp at h; omega
    obtain ⟨V, hV⟩ : ∃ V, Value.slice ao (pre.length + 1) cap = V := ⟨_, rfl⟩
    have K1' := Kp.mk K1.out
    rw [hV] at hvb ⊢
    have HK1 : Kp (RK 3 w3 V (pre.length + 1) (pre.flatMap FrV.cells ++ [.int .u8 k, .string (B y), .int .i64 a])) := ⟨by rw [← hV]; exact K1.out⟩
    have h3 : Below w.heap.size w w3 := (hb2.out.alloc hlw _).grown K2.out (by simp; omega) (fun q e => by have := hbd q e; omega)
    have hz3 : W2.heap.size < w3.heap.size := by have := K2.out.size; simp at this; omega
    obtain ⟨W5, hW5⟩ : ∃ W5, (w3.setCell ⟨w.heap.size, 0, none⟩ V).setCell ⟨w.heap.size + 1, 0, none⟩ (.int .i64 (N : Nat)) = W5 := ⟨_, rfl⟩
    have hk5 : ∀ q, q ≠ w.heap.size → q ≠ w.heap.size + 1 → W5.heap[q]? = w3.heap[q]? := fun q h0 h1 => by
      rw [← hW5]; exact (Below.heap_setCell _ _ _ q h1).trans (Below.heap_setCell _ _ _ q h0)
    have ho5 : W5.heap[w.heap.size]? = some (.cells #[V] 144 (0, 0)) := by
      rw [← hW5]; exact (Below.heap_setCell _ _ _ _ (by simp)).trans (one_set Q0.out V)
    have hg5 : W5.heap[w.heap.size + 1]? = some (.cells #[.int .i64 (N : Nat)] 3 (0, 0)) := by
      rw [← hW5]; exact one_set ((Below.heap_setCell _ _ _ _ (by simp)).trans Q1.out) _
    have hb5 : Below w.heap.size w W5 := by
      rw [← hW5]; exact (h3.setCell (p := ⟨w.heap.size, 0, none⟩) (Nat.le_refl _) _).setCell (p := ⟨w.heap.size + 1, 0, none⟩) (by simp) _
    have hz5 : W5.heap.size = w3.heap.size := by rw [← hW5]; simp
    have hr5 : W5.heap[w.heap.size + 5]? = some (.loop { L with state := .busy }) := by rw [hk5 _ (by omega) (by omega), hold _ (by omega)]; exact hrec2.out
    rw [hW5]
    refine ⟨_, _, run_endRound none hr5, ?_⟩
    have hLL : ({ { L with state := LoopState.busy } with state := if (none : Option Code).isNone then .ready else .done, pending := none } : Loop) = L := by rw [HLq.out]; rfl
    rw [hLL]
    have hk6 : ∀ q, q ≠ w.heap.size + 5 → (W5.putObj (w.heap.size + 5) (.loop L)).heap[q]? = W5.heap[q]? := fun q hq => World.putObj_heap_other hq
    rw [HR.out]
    refine ⟨rfl, ⟨V, (hk6 _ (by omega)).trans ho5, ?_, hvb, (hk6 _ (by omega)).trans (by rw [good_snoc, hN]; exact hg5), World.putObj_heap_same (by omega), (hk6 _ (by omega)).trans (by rw [hk5 _ (by omega) (by omega), hold _ (by omega)]; exact d2.out), ?_⟩, ?_, ?_, ?_⟩
    · have := HK1.out.same (w' := W5.putObj (w.heap.size + 5) (.loop L)) (by rw [World.putObj_size]; omega) (fun q hq => by have := hvb q hq; rw [hk6 _ (by omega), hk5 _ (by omega) (by omega)])
      simpa [FrV.cells] using this
    · exact hb5.trans ((Below.refl _ _).grown (grownBy_putObj' _ _ _) (by omega) (fun q e => by cases e; omega))
    · rw [hk6 _ (by omega), hk5 _ (by omega) (by omega), hold _ (by omega)]; exact s2.out
    · rw [hk6 _ (by omega), hk5 _ (by omega) (by omega), hold _ (by omega)]; exact s3.out
    · rw [World.putObj_size]; omega
  rintro e W4 ⟨⟨v0, rfl⟩, v, hj⟩
  obtain ⟨ao, cap, rfl, _, _⟩ := hj.row.len
  have he := run_endLoop (P := Tryz.prog) hj.record (by rw [hL]; simp)
  have hk7 : ∀ q, q ≠ w.heap.size + 5 → (W4.putObj (w.heap.size + 5) (.loop { L with state := .exhausted })).heap[q]? = W4.heap[q]? := fun q hq => World.putObj_heap_other hq
  have hz4 := lt_of_heap hj.record
  have hb7 : Below w.heap.size w (W4.putObj (w.heap.size + 5) (.loop { L with state := .exhausted })) := hj.below.trans ((Below.refl _ _).grown (grownBy_putObj' _ _ _) hj.below.size (fun q e => by cases e; omega))
  have hz7 : (W4.putObj (w.heap.size + 5) (.loop { L with state := .exhausted })).heap.size = W4.heap.size := World.putObj_size
  obtain ⟨W7, hW7⟩ : ∃ W7, W4.putObj (w.heap.size + 5) (.loop { L with state := .exhausted }) = W7 := ⟨_, rfl⟩
  rw [hW7] at hk7 hb7 hz7 he
  rw [show L.pending = none from by rw [hL]] at he
  refine ⟨none, W7, he, ?_⟩
  clear he
  have o7 := (hk7 _ (by omega)).trans hj.out
  have g7 := (hk7 _ (by omega)).trans hj.good
  have d7 := (hk7 _ (by omega)).trans hj.defers
  have row7 := Kp.mk (hj.row.same (w' := W7) (by omega) (fun q hq => hk7 q (by have := hj.new q hq; omega)))
  have HN := Kp.mk hj.new
  have HG := Kp.mk (scanL_good s.data.toList p0)
  have c0 : W7.cell? ⟨w.heap.size, 0, none⟩ = some (.slice ao (scanL s.data.toList p0).1.length cap) := by simp [World.cell?, o7]
  have c1 : W7.cell? ⟨w.heap.size + 1, 0, none⟩ = some (.int .i64 (good p0 (scanL s.data.toList p0).1 : Nat)) := by simp [World.cell?, g7]
  have e0 : W7.frozen? ⟨w.heap.size, 0, none⟩ = false := by simp [World.frozen?, o7]
  have e1 : W7.frozen? ⟨w.heap.size + 1, 0, none⟩ = false := by simp [World.frozen?, g7]
  have O7 := Kp.mk o7
  have G7 := Kp.mk g7
  have D7 := Kp.mk d7
  have B7 := Kp.mk hb7
  have HZ7 := Kp.mk hz7
  have HZ4 := Kp.mk hz4
  clear o7 g7 d7 hb7 hk7 hW7 hj hL hLo hD2 hD hb2 hh0 hW0 hz2 hz1 hz7 hz4
  simp only [List.cons_append, List.nil_append]
  gi_wp2
  gi_region
  gi_wp2
  obtain ⟨M, hM⟩ : ∃ M, (scanL s.data.toList p0).1.length = M := ⟨_, rfl⟩
  rw [hM] at row7 HN O7 ⊢
  obtain ⟨W8, hW8⟩ : ∃ W8, ((W7.setCell ⟨w.heap.size, 0, none⟩ (.slice ao M cap)).setCell ⟨w.heap.size + 1, 0, none⟩ (.int .i64 (good p0 (scanL s.data.toList p0).1 : Nat))).drew = W8 := ⟨_, rfl⟩
  have hk8 : ∀ q, q ≠ w.heap.size → q ≠ w.heap.size + 1 → W8.heap[q]? = W7.heap[q]? := fun q h0 h1 => by
    rw [← hW8]; exact (Below.heap_setCell _ _ _ q h1).trans (Below.heap_setCell _ _ _ q h0)
  have o8 : W8.heap[w.heap.size]? = some (.cells #[.slice ao M cap] 144 (0, 0)) := by
    rw [← hW8]; exact (Below.heap_setCell _ _ _ _ (by simp)).trans (one_set O7.out _)
  have g8 : W8.heap[w.heap.size + 1]? = some (.cells #[.int .i64 (good p0 (scanL s.data.toList p0).1 : Nat)] 3 (0, 0)) := by
    rw [← hW8]; exact one_set ((Below.heap_setCell _ _ _ _ (by simp)).trans G7.out) _
  have b8 : Below w.heap.size w W8 := by
    rw [← hW8]; exact ((B7.out.setCell (p := ⟨w.heap.size, 0, none⟩) (Nat.le_refl _) _).setCell (p := ⟨w.heap.size + 1, 0, none⟩) (by simp) _).drew
  have z8 : W8.heap.size = W7.heap.size := by
    rw [← hW8]; show ((W7.setCell _ _).setCell _ _).heap.size = _; simp
  have d8 : W8.heap[w.heap.size + 4]? = some (.deferred (some [])) := (hk8 _ (by omega) (by omega)).trans D7.out
  rw [hW8]
  have hz7 := HZ7.out
  have hz4 := HZ4.out
  refine ⟨by simp, .inl ⟨_, _, rfl, run_takeDeferred d8, ?_⟩⟩
  have hk9 : ∀ q, q ≠ w.heap.size + 4 → (W8.putObj (w.heap.size + 4) (.deferred none)).heap[q]? = W8.heap[q]? := fun q hq => World.putObj_heap_other hq
  have c8 : (W8.putObj (w.heap.size + 4) (.deferred none)).cell? ⟨w.heap.size, 0, none⟩ = some (.slice ao M cap) := by
    rw [World.cell?_of_block (a := ⟨w.heap.size, 0, none⟩) (hk9 w.heap.size (by omega))]; simp [World.cell?, o8]
  have c9 : (W8.putObj (w.heap.size + 4) (.deferred none)).cell? ⟨w.heap.size + 1, 0, none⟩ = some (.int .i64 (good p0 (scanL s.data.toList p0).1 : Nat)) := by
    rw [World.cell?_of_block (a := ⟨w.heap.size + 1, 0, none⟩) (hk9 (w.heap.size + 1) (by omega))]; simp [World.cell?, g8]
  refine ⟨.tuple #[.slice ao M cap, .int .i64 (good p0 (scanL s.data.toList p0).1 : Nat)], by simp [results, Tryz.results118, go_sem, c8, c9], ?_⟩
  refine ⟨.slice ao M cap, by rw [HG.out], ?_, fun q hq => by have := HN.out q hq; omega, ?_⟩
  · exact row7.out.same (by rw [World.putObj_size]; omega) (fun q hq => by have := HN.out q hq; rw [hk9 q (by omega), hk8 q (by omega) (by omega)])
  · exact b8.trans ((Below.refl _ _).grown (grownBy_putObj' _ _ _) (by omega) (fun q e => by cases e; omega))
def scanV (s : ByteArray) (a : Int) : List FrV × Nat := if a < 0 ∨ (s.size : Int) < a then ([], 0) else scanL s.data.toList a.toNat
theorem Scan_out (s : ByteArray) (a : Int) (w : World) (hs : s.size ≤ 1000000000000) (h1 : -9223372036854775808 ≤ a) (h2 : a ≤ 9223372036854775807) (h0 : a < 0 ∨ (s.size : Int) < a) :
    Calls Tryz.prog 118 #[.string s, .int .i64 a] w fun e w' => e = .returned (.tuple #[.slice none 0 0, .int .i64 0]) ∧ Below w.heap.size w w' := by
  by_cases h00 : a < 0
  · have t1 : decide (a < 0) = true := by rw [decide_eq_true_eq]; exact h00
    go_enter Tryz.func118, Tryz.ntmps118
    go_wp2
    refine bodyPost_ret (v := .tuple #[.slice none 0 0, .int .i64 0]) (by simp [results, Tryz.results118, go_sem]) rfl ?_
    exact ⟨rfl, ((Below.refl _ w).alloc (Nat.le_refl _) _).alloc (by simp) _⟩
  · have t1 : decide (a < 0) = false := by rw [decide_eq_false_iff_not]; exact h00
    have t2 : decide ((s.size : Int) < a) = true := by rw [decide_eq_true_eq]; omega
    go_enter Tryz.func118, Tryz.ntmps118
    go_wp2
    refine bodyPost_ret (v := .tuple #[.slice none 0 0, .int .i64 0]) (by simp [results, Tryz.results118, go_sem]) rfl ?_
    exact ⟨rfl, ((Below.refl _ w).alloc (Nat.le_refl _) _).alloc (by simp) _⟩
/-- frame.Scan: the frames, in a slice that is new. -/
theorem Scan_any (s : ByteArray) (a : Int) (w : World) (hs : s.size ≤ 1000000000000) (h1 : -9223372036854775808 ≤ a) (h2 : a ≤ 9223372036854775807) (ht : Tab w) :
    Calls Tryz.prog 118 #[.string s, .int .i64 a] w fun e w' => ∃ v, e = .returned (.tuple #[v, .int .i64 (scanV s a).2]) ∧ RK 3 w' v (scanV s a).1.length ((scanV s a).1.flatMap FrV.cells) ∧ (∀ k, blk v = some k → w.heap.size ≤ k) ∧ Below w.heap.size w w' := by
  unfold scanV
  by_cases h0 : a < 0 ∨ (s.size : Int) < a
  · rw [if_pos h0]
    refine (Scan_out s a w hs h1 h2 h0).mono ?_
    rintro e w' ⟨rfl, hb⟩
    exact ⟨_, rfl, RK.nil _ _, fun k hk => by simp [blk] at hk, hb⟩
  · rw [if_neg h0]
    have := Scan_in s a.toNat w hs (by omega) ht
    rwa [show ((a.toNat : Nat) : Int) = a from by omega] at this
end Go.Proofs.YtpfoekfbcpinlaaGreatDoor
/- The reference's number, Read, Make. Printed by tools/framerefgen.py. -/
namespace Go.Proofs.YtpfoekfbcpinlaaGreatDoor
open Go.RowKit
set_option linter.unusedVariables false

theorem belowN (B : Nat) (W : World) (k : Nat) : Below B W (W.drewN k) := ⟨rfl, rfl, rfl, Nat.le_refl _, fun _ _ => rfl⟩
theorem quad_len (s : ByteArray) (a : Nat) (h : a + 4 ≤ s.size) : ((s.data.toList.drop a).take 4).length = 4 := by
  rw [List.length_take, List.length_drop, data_len]; omega
theorem quad_get (s : ByteArray) (a k : Nat) (h : a + 4 ≤ s.size) (hk : k < 4) : ((s.data.toList.drop a).take 4)[k]? = some (s[a + k]'(by omega)) := by
  rw [List.getElem?_take, if_pos hk, List.getElem?_drop, List.getElem?_eq_getElem (show a + k < s.data.toList.length by rw [data_len]; omega)]
  rfl
set_option maxRecDepth 20000 in
theorem number_any (s : ByteArray) (a : Nat) (w : World) (hs : s.size ≤ 140737488351000) (h : a + 4 ≤ s.size) :
    Calls Tryz.prog 41 #[.string s, .int .i64 a] w fun e w' => e = .returned (.int .u64 (Var.fv ((s.data.toList.drop a).take 4) : Nat)) ∧ w = w' := by
  have hq := quad_len s a h
  have hg := quad_get s a
  generalize (s.data.toList.drop a).take 4 = q at hq hg
  go_enter Tryz.func41, Tryz.ntmps41
  go_wp2
  go_loop [5, 6] (fun n i => ∃ k : Nat, k ≤ 4 ∧ i = .int .i64 ((k : Int) - 1) ∧ n = .int .u64 (Var.fv (q.drop k) : Nat)) (fun _ i => (intOf i + 1).toNat)
  case atStart => exact ⟨4, by omega, by go_num, by rw [List.drop_eq_nil_of_le (by omega)]; rfl⟩
  case round =>
    obtain ⟨k, hk, rfl, rfl⟩ := hrel
    cases k with
    | zero =>
      go_wp2
      go_ret
      exact ⟨rfl, rfl⟩
    | succ k =>
      have hcast : ((k + 1 : Nat) : Int) - 1 = (k : Int) := by omega
      have hf := Var.fv_lt (q.drop (k + 1))
      have hgk : q[k]'(by omega) = s[a + k]'(by omega) := by
        have := hg k h (by omega)
        rw [List.getElem?_eq_getElem (by omega)] at this
        exact Option.some.inj this
      have HV : Kp (Var.fv (q.drop k) = (s[a + k]'(by omega)).toNat + 256 * Var.fv (q.drop (k + 1))) := ⟨by
        rw [List.drop_eq_getElem_cons (show k < q.length by omega), Var.fv, hgk]⟩
      have hlen : (q.drop (k + 1)).length ≤ 3 := by simp; omega
      have hb : Var.fv (q.drop (k + 1)) * 256 < 4294967296 := by
        have := Nat.pow_le_pow_right (show 0 < 256 by decide) hlen
        omega
      generalize Var.fv (q.drop (k + 1)) = f at hf hb HV
      have hc := UInt8.toNat_lt (s[a + k]'(by omega))
      have i1 : (0 : Int) ≤ (a : Int) + (k : Int) := by omega
      have i2 : (a : Int) + (k : Int) < (s.size : Int) := by omega
      have i3 : ((a : Int) + (k : Int)).toNat = a + k := by omega
      have i4 : a + k < s.size := by omega
      clear hf hlen hgk hg
      rw [hcast]
      go_wp2
      exact ⟨⟨k, by omega, rfl, by rw [HV.out]; go_num⟩, by simp [intOf]⟩

set_option maxHeartbeats 2000000 in
set_option maxRecDepth 20000 in
theorem refRead_out (s : ByteArray) (a : Int) (w : World) (hs : s.size ≤ 140737488351000) (h1 : -9223372036854775808 ≤ a) (h2 : a ≤ 9223372036854775807) (h0 : a < 0 ∨ (s.size : Int) < a) :
    Calls Tryz.prog 8 #[.string s, .int .i64 a] w fun e w' => e = Fr.readE s a ∧ Below w.heap.size w w' := by
  have HV : Kp (Fr.readE s a = Fr.badE 1) := ⟨Fr.readE_bad (by decide) (readV_out h0)⟩
  by_cases h00 : a < 0
  · have t1 : decide (a < 0) = true := by rw [decide_eq_true_eq]; exact h00
    go_enter Tryz.func8, Tryz.ntmps8
    go_wp2
    refine bodyPost_ret (v := .tuple #[.agg #[.int .u8 0, .string ⟨#[]⟩, .int .i64 0], .int .i64 0, .int .i64 1]) (by simp [results, Tryz.results8, go_sem]) rfl ?_
    exact ⟨HV.out.symm, (Below.refl _ w).alloc (Nat.le_refl _) _⟩
  · have t1 : decide (a < 0) = false := by rw [decide_eq_false_iff_not]; exact h00
    have t2 : decide ((s.size : Int) < a) = true := by rw [decide_eq_true_eq]; omega
    go_enter Tryz.func8, Tryz.ntmps8
    go_wp2
    refine bodyPost_ret (v := .tuple #[.agg #[.int .u8 0, .string ⟨#[]⟩, .int .i64 0], .int .i64 0, .int .i64 1]) (by simp [results, Tryz.results8, go_sem]) rfl ?_
    exact ⟨HV.out.symm, (Below.refl _ w).alloc (Nat.le_refl _) _⟩
set_option maxHeartbeats 2000000 in
set_option maxRecDepth 20000 in
theorem refRead_small (s : ByteArray) (a : Int) (w : World) (hs : s.size ≤ 140737488351000) (h1 : -9223372036854775808 ≤ a) (h2 : a ≤ 9223372036854775807) (h0 : ¬ (a < 0 ∨ (s.size : Int) < a)) (h9 : (s.extract a.toNat s.size).data.toList.length < 9) :
    Calls Tryz.prog 8 #[.string s, .int .i64 a] w fun e w' => e = Fr.readE s a ∧ Below w.heap.size w w' := by
  have hlen : (s.extract a.toNat s.size).data.toList.length = s.size - a.toNat := by rw [data_len]; simp
  have t1 : decide (a < 0) = false := by rw [decide_eq_false_iff_not]; omega
  have t2 : decide ((s.size : Int) < a) = false := by rw [decide_eq_false_iff_not]; omega
  have HV : Kp (Fr.readE s a = Fr.badE 8) := ⟨Fr.readE_bad (by decide) (by rw [readV_in h0]; unfold Fr.readL; rw [if_pos h9])⟩
  have t3 : (s.size : Int) - a < 9 := by omega
  go_enter Tryz.func8, Tryz.ntmps8
  go_wp2
  refine bodyPost_ret (v := .tuple #[.agg #[.int .u8 0, .string ⟨#[]⟩, .int .i64 0], .int .i64 0, .int .i64 8]) (by simp [results, Tryz.results8, go_sem]) rfl ?_
  exact ⟨HV.out.symm, (Below.refl _ w).alloc (Nat.le_refl _) _⟩
theorem tail_list (s : ByteArray) (n : Nat) (h : n ≤ s.size) : (s.extract n s.size).data.toList = s.data.toList.drop n := by
  have : s.size = n + (s.size - n) := by omega
  rw [this, extract_list, List.take_of_length_le]
  simp
theorem body_text (s : ByteArray) (n : Nat) (h : n + 9 ≤ s.size) : s.extract (n + 8) (n + 9 + Fr.num (s.data.toList.drop n)) = B (Fr.body (s.data.toList.drop n)) := by
  apply bytes_ext
  rw [show n + 9 + Fr.num (s.data.toList.drop n) = n + 8 + (Fr.num (s.data.toList.drop n) + 1) from by omega, extract_list, B_list]
  unfold Fr.body
  rw [List.drop_drop]
theorem pay_text (s : ByteArray) (n : Nat) (h : n + 9 ≤ s.size) : s.extract (n + 9) (n + 9 + Fr.num (s.data.toList.drop n)) = B (((s.data.toList.drop n).drop 9).take (Fr.num (s.data.toList.drop n))) := by
  apply bytes_ext
  rw [extract_list, B_list, List.drop_drop]
theorem kind_text (s : ByteArray) (n : Nat) (h : n + 9 ≤ s.size) : s[n + 8]'(by omega) = Fr.kind (s.data.toList.drop n) := by
  unfold Fr.kind
  rw [List.drop_drop, List.drop_eq_getElem_cons (show n + 8 < s.data.toList.length by rw [data_len]; omega)]
  rfl
set_option maxHeartbeats 2000000 in
set_option maxRecDepth 20000 in
theorem refRead_in (s : ByteArray) (a : Int) (w : World) (hs : s.size ≤ 140737488351000) (h1 : -9223372036854775808 ≤ a) (h2 : a ≤ 9223372036854775807) (n : Nat) (ha : a = (n : Int)) (h0 : n + 9 ≤ s.size) :
    Calls Tryz.prog 8 #[.string s, .int .i64 a] w fun e w' => e = Fr.readE s a ∧ Below w.heap.size w w' := by
  subst ha
  have hRV : Fr.readV s n = Fr.readL (s.data.toList.drop n) := by rw [readV_in (by omega), Int.toNat_natCast, tail_list s n (by omega)]
  have hlen : (s.data.toList.drop n).length = s.size - n := by rw [List.length_drop, data_len]
  have h9 : ¬ (s.data.toList.drop n).length < 9 := by omega
  have t1 : decide ((n : Int) < 0) = false := by rw [decide_eq_false_iff_not]; omega
  have t2 : decide ((s.size : Int) < (n : Int)) = false := by rw [decide_eq_false_iff_not]; omega
  have t2' : decide (s.size < n) = false := by rw [decide_eq_false_iff_not]; omega
  have t3 : ¬ (s.size : Int) - (n : Int) < 9 := by omega
  have HN := Kp.mk (fun w => number_any s n w hs (by omega))
  have HN4 := Kp.mk (fun w => number_any s (n + 4) w hs (by omega))
  have hnl := Fr.num_lt (s.data.toList.drop n)
  have hml := Fr.msk_lt (s.data.toList.drop n)
  have HBT := Kp.mk (body_text s n h0)
  have HPT := Kp.mk (pay_text s n h0)
  have HKT := Kp.mk (kind_text s n h0)
  have HN : Kp (∀ w, Calls Tryz.prog 41 #[.string s, .int .i64 n] w fun e w' => e = .returned (.int .u64 (Fr.num (s.data.toList.drop n) : Nat)) ∧ w = w') := ⟨HN.out⟩
  have HN4 : Kp (∀ w, Calls Tryz.prog 41 #[.string s, .int .i64 ((n : Int) + 4)] w fun e w' => e = .returned (.int .u64 (Fr.msk (s.data.toList.drop n) : Nat)) ∧ w = w') := ⟨fun w => by
    have := HN4.out w
    rw [show s.data.toList.drop (n + 4) = (s.data.toList.drop n).drop 4 from by rw [List.drop_drop]] at this
    exact this⟩
  generalize s.data.toList.drop n = l at *

  go_enter Tryz.func8, Tryz.ntmps8
  go_wp2_with fail
  refine (HN.out _).mono ?_
  rintro e w' ⟨rfl, rfl⟩
  by_cases c1 : 262144 < Fr.num l
  · have HV : Kp (Fr.readE s n = Fr.badE 40) := ⟨Fr.readE_bad (by decide) (by rw [hRV]; unfold Fr.readL; rw [if_neg h9, if_pos c1])⟩
    go_wp2
    refine bodyPost_ret (v := .tuple #[.agg #[.int .u8 0, .string ⟨#[]⟩, .int .i64 0], .int .i64 0, .int .i64 40]) (by simp [results, Tryz.results8, go_sem]) rfl ?_
    exact ⟨HV.out.symm, (Below.refl _ w).alloc (Nat.le_refl _) _⟩
  by_cases c2 : l.length ≤ Fr.num l + 8
  · have HV : Kp (Fr.readE s n = Fr.badE 8) := ⟨Fr.readE_bad (by decide) (by rw [hRV]; unfold Fr.readL; rw [if_neg h9, if_neg c1, if_pos c2])⟩
    have t4 : (s.size : Int) - n - 9 < Fr.num l := by omega
    have t5 : IntKind.u64.wrap ((s.size : Int) - n - 9) = (s.size : Int) - n - 9 := by unfold IntKind.wrap; simp [IntKind.bits, IntKind.signed]; omega
    go_wp2
    refine bodyPost_ret (v := .tuple #[.agg #[.int .u8 0, .string ⟨#[]⟩, .int .i64 0], .int .i64 0, .int .i64 8]) (by simp [results, Tryz.results8, go_sem]) rfl ?_
    exact ⟨HV.out.symm, (Below.refl _ w).alloc (Nat.le_refl _) _⟩
  have t4 : ¬ (s.size : Int) - n - 9 < Fr.num l := by omega
  have t5 : IntKind.u64.wrap ((s.size : Int) - n - 9) = (s.size : Int) - n - 9 := by unfold IntKind.wrap; simp [IntKind.bits, IntKind.signed]; omega
  have hcl : Crc.crc (Fr.body l) < 4294967296 := Crc.crc_lt _
  have HO := Kp.mk (fun w => refOf_any (B (Fr.body l)) w (by rw [B_size, body_len c2]; omega))
  rw [B_list] at HO
  have HM : Kp (∀ w, Calls Tryz.prog 42 #[.int .u32 (Crc.crc (Fr.body l) : Nat)] w fun e w' => e = .returned (.int .u32 (Fr.sumL (Fr.body l) : Nat)) ∧ w = w') := ⟨fun w => refMask_any _ w hcl⟩
  have hsl := Fr.sumL_lt (Fr.body l)
  have hbt := HBT.out
  have hpt := HPT.out
  have hkt := HKT.out
  have hpl : ((l.drop 9).take (Fr.num l)).length = Fr.num l := by rw [List.length_take, List.length_drop]; omega
  have hOk : ¬ Fr.sumL (Fr.body l) = Fr.msk l → Kp (Fr.readE s n = Fr.badE 42) := fun c3 => ⟨Fr.readE_bad (by decide) (by rw [hRV]; unfold Fr.readL; rw [if_neg h9, if_neg c1, if_neg c2, if_pos c3])⟩
  have hFm : Fr.sumL (Fr.body l) = Fr.msk l → ((Fr.kind l).toNat < 1 ∨ 3 < (Fr.kind l).toNat) → Kp (Fr.readE s n = Fr.badE 4) := fun c3 c4 => ⟨Fr.readE_bad (by decide) (by rw [hRV]; unfold Fr.readL; rw [if_neg h9, if_neg c1, if_neg c2, if_neg (fun h => h c3), if_pos c4])⟩
  have hOkk : Fr.sumL (Fr.body l) = Fr.msk l → ¬ ((Fr.kind l).toNat < 1 ∨ 3 < (Fr.kind l).toNat) → Kp (Fr.readE s n = .returned (.tuple #[.agg #[.int .u8 (Fr.kind l).toNat, .string (B ((l.drop 9).take (Fr.num l))), .int .i64 n], .int .i64 ((n : Int) + (9 + Fr.num l : Nat)), .int .i64 (0 : Nat)])) := fun c3 c4 => ⟨by
    have := Fr.readE_ok (s := s) (a := n) (k := (Fr.kind l).toNat) (p := (l.drop 9).take (Fr.num l)) (by rw [hRV]; unfold Fr.readL; rw [if_neg h9, if_neg c1, if_neg c2, if_neg (fun h => h c3), if_neg c4])
    rwa [hpl] at this⟩
  obtain ⟨bd, hbd⟩ : ∃ bd, B (Fr.body l) = bd := ⟨_, rfl⟩
  obtain ⟨pd, hpd⟩ : ∃ pd, B ((l.drop 9).take (Fr.num l)) = pd := ⟨_, rfl⟩
  rw [hbd] at hbt HO
  rw [hpd] at hpt
  simp only [hpd] at hOkk
  have hend : n + 9 + Fr.num l ≤ s.size := by omega
  obtain ⟨kd, hkd⟩ : ∃ kd, Fr.kind l = kd := ⟨_, rfl⟩
  rw [hkd] at hkt
  simp only [hkd] at hFm hOkk
  have hk8 := UInt8.toNat_lt kd
  obtain ⟨N, hN⟩ : ∃ N, Fr.num l = N := ⟨_, rfl⟩
  obtain ⟨S, hS⟩ : ∃ S, Fr.sumL (Fr.body l) = S := ⟨_, rfl⟩
  obtain ⟨M, hM⟩ : ∃ M, Fr.msk l = M := ⟨_, rfl⟩
  simp only [hN, hS, hM] at *
  have i1 : ((n : Int) + 8).toNat = n + 8 := by omega
  have i2 : ((n : Int) + 9 + (N : Int)).toNat = n + 9 + N := by omega
  have i3 : ((n : Int) + 9).toNat = n + 9 := by omega
  have j1 : (0 : Int) ≤ (n : Int) + 8 := by omega
  have j2 : (n : Int) + 8 ≤ (n : Int) + 9 + (N : Int) := by omega
  have j3 : (n : Int) + 9 + (N : Int) ≤ (s.size : Int) := by omega
  have j4 : (n : Int) + 8 < (s.size : Int) := by omega
  have j5 : (n : Int) + 9 ≤ (n : Int) + 9 + (N : Int) := by omega
  have j6 : (0 : Int) ≤ (n : Int) + 9 := by omega
  have j7 : n + 8 < s.size := by omega
  have q4 : IntKind.i64.wrap ((n : Int) + 4) = (n : Int) + 4 := by rw [IntKind.wrap_i64]; omega
  have q8 : IntKind.i64.wrap ((n : Int) + 8) = (n : Int) + 8 := by rw [IntKind.wrap_i64]; omega
  have q9 : IntKind.i64.wrap ((n : Int) + 9) = (n : Int) + 9 := by rw [IntKind.wrap_i64]; omega
  go_wp2_with fail
  go_quiet (first | (go_at_call 41; exact Calls.quiet_of_same ((HN4.out _).mono (fun e w' h => ⟨h.1, h.2.symm⟩))) | (go_at_call 43; exact Calls.quiet_of_same ((HO.out _).mono (fun e w' h => ⟨h.1, h.2.symm⟩))) | (go_at_call 42; exact Calls.quiet_of_same ((HM.out _).mono (fun e w' h => ⟨h.1, h.2.symm⟩))))
  by_cases c3 : S = M
  · have e1 : ((M : Int) != (S : Int)) = false := by simp [c3]
    by_cases c4 : kd.toNat < 1 ∨ 3 < kd.toNat
    · have HV := hFm c3 c4
      clear hFm hOkk hOk
      by_cases c5 : kd.toNat < 1
      · have e2 : decide ((kd.toNat : Int) < 1) = true := by rw [decide_eq_true_eq]; omega
        go_wp2
        obtain ⟨⟨m0, m1, m2⟩, m3⟩ := cells3 (w := (w.alloc (.cells #[.int .u8 0, .string ⟨#[]⟩, .int .i64 0] 24)).drewN (nq)) (k := w.heap.size) (heap_alloc_new w _)
        refine bodyPost_ret (v := .tuple #[.agg #[.int .u8 0, .string ⟨#[]⟩, .int .i64 0], .int .i64 0, .int .i64 4]) (by simp [results, Tryz.results8, go_sem, m0, m1, m2]) rfl ⟨HV.out.symm, (((((Below.refl _ w).alloc (Nat.le_refl _) _).trans (belowN _ _ (nq))).setCell (p := ⟨w.heap.size, 0, none⟩) (Nat.le_refl _) _).setCell (p := ⟨w.heap.size, 1, none⟩) (Nat.le_refl _) _).setCell (p := ⟨w.heap.size, 2, none⟩) (Nat.le_refl _) _⟩
      · have e2 : decide ((kd.toNat : Int) < 1) = false := by rw [decide_eq_false_iff_not]; omega
        have e3 : decide (3 < (kd.toNat : Int)) = true := by rw [decide_eq_true_eq]; omega
        go_wp2
        obtain ⟨⟨m0, m1, m2⟩, m3⟩ := cells3 (w := (w.alloc (.cells #[.int .u8 0, .string ⟨#[]⟩, .int .i64 0] 24)).drewN (nq)) (k := w.heap.size) (heap_alloc_new w _)
        refine bodyPost_ret (v := .tuple #[.agg #[.int .u8 0, .string ⟨#[]⟩, .int .i64 0], .int .i64 0, .int .i64 4]) (by simp [results, Tryz.results8, go_sem, m0, m1, m2]) rfl ⟨HV.out.symm, (((((Below.refl _ w).alloc (Nat.le_refl _) _).trans (belowN _ _ (nq))).setCell (p := ⟨w.heap.size, 0, none⟩) (Nat.le_refl _) _).setCell (p := ⟨w.heap.size, 1, none⟩) (Nat.le_refl _) _).setCell (p := ⟨w.heap.size, 2, none⟩) (Nat.le_refl _) _⟩
    · have HV := hOkk c3 c4
      clear hFm hOkk hOk
      have e2 : decide ((kd.toNat : Int) < 1) = false := by rw [decide_eq_false_iff_not]; omega
      have e3 : decide (3 < (kd.toNat : Int)) = false := by rw [decide_eq_false_iff_not]; omega
      go_wp2
      go_region
      go_wp2
      obtain ⟨⟨m0, m1, m2⟩, m3⟩ := cells3 (w := (w.alloc (.cells #[.int .u8 0, .string ⟨#[]⟩, .int .i64 0] 24)).drewN (nq + 1)) (k := w.heap.size) (heap_alloc_new w _)
      refine bodyPost_ret (v := .tuple #[.agg #[.int .u8 (kd.toNat : Nat), .string pd, .int .i64 n], .int .i64 ((n : Int) + 9 + (N : Int)), .int .i64 0]) (by simp [results, Tryz.results8, go_sem, m0, m1, m2]) rfl ⟨by rw [HV.out, show (n : Int) + 9 + (N : Int) = (n : Int) + ((9 + N : Nat) : Int) from by omega]; rfl, (((((Below.refl _ w).alloc (Nat.le_refl _) _).trans (belowN _ _ (nq + 1))).setCell (p := ⟨w.heap.size, 0, none⟩) (Nat.le_refl _) _).setCell (p := ⟨w.heap.size, 1, none⟩) (Nat.le_refl _) _).setCell (p := ⟨w.heap.size, 2, none⟩) (Nat.le_refl _) _⟩
  · have e1 : ((M : Int) != (S : Int)) = true := by simp; omega
    have HV := hOk c3
    clear hFm hOkk hOk
    go_wp2
    obtain ⟨⟨m0, m1, m2⟩, m3⟩ := cells3 (w := (w.alloc (.cells #[.int .u8 0, .string ⟨#[]⟩, .int .i64 0] 24)).drewN (nq)) (k := w.heap.size) (heap_alloc_new w _)
    refine bodyPost_ret (v := .tuple #[.agg #[.int .u8 0, .string ⟨#[]⟩, .int .i64 0], .int .i64 0, .int .i64 42]) (by simp [results, Tryz.results8, go_sem, m0, m1, m2]) rfl ⟨HV.out.symm, (((((Below.refl _ w).alloc (Nat.le_refl _) _).trans (belowN _ _ (nq))).setCell (p := ⟨w.heap.size, 0, none⟩) (Nat.le_refl _) _).setCell (p := ⟨w.heap.size, 1, none⟩) (Nat.le_refl _) _).setCell (p := ⟨w.heap.size, 2, none⟩) (Nat.le_refl _) _⟩
theorem refRead_any (s : ByteArray) (a : Int) (w : World) (hs : s.size ≤ 140737488351000) (h1 : -9223372036854775808 ≤ a) (h2 : a ≤ 9223372036854775807) :
    Calls Tryz.prog 8 #[.string s, .int .i64 a] w fun e w' => e = Fr.readE s a ∧ Below w.heap.size w w' := by
  by_cases h0 : a < 0 ∨ (s.size : Int) < a
  · exact refRead_out s a w hs h1 h2 h0
  · by_cases h9 : (s.extract a.toNat s.size).data.toList.length < 9
    · exact refRead_small s a w hs h1 h2 h0 h9
    · have hlen : (s.extract a.toNat s.size).data.toList.length = s.size - a.toNat := by rw [data_len]; simp
      exact refRead_in s a w hs h1 h2 a.toNat (by omega) (by omega)
end Go.Proofs.YtpfoekfbcpinlaaGreatDoor
/- One, the reference's Make, Scan, One; the laws' same, made. -/
namespace Go.Proofs.YtpfoekfbcpinlaaGreatDoor
open Go.RowKit
set_option linter.unusedVariables false

set_option maxRecDepth 20000 in
theorem refMake_any (k : Nat) (s : ByteArray) (w : World) (hk : k < 256) (hs : s.size ≤ 140737488351000) :
    Calls Tryz.prog 105 #[.int .u8 k, .string s] w fun e w' => e = makeE k s ∧ Below w.heap.size w w' := by
  by_cases h0 : k < 1 ∨ 3 < k
  · have HV : Kp (makeE k s = .returned (.tuple #[.string ⟨#[]⟩, .int .i64 (1 : Nat)])) := ⟨by unfold makeE makeV; rw [if_pos h0]⟩
    by_cases h1 : k < 1
    · have t1 : decide ((k : Int) < 1) = true := by rw [decide_eq_true_eq]; omega
      go_enter Tryz.func105, Tryz.ntmps105
      go_wp2
      go_ret2
      exact ⟨HV.out.symm, Below.refl _ _⟩
    · have t1 : decide ((k : Int) < 1) = false := by rw [decide_eq_false_iff_not]; omega
      have t2 : decide (3 < (k : Int)) = true := by rw [decide_eq_true_eq]; omega
      go_enter Tryz.func105, Tryz.ntmps105
      go_wp2
      go_ret2
      exact ⟨HV.out.symm, Below.refl _ _⟩
  · have t1 : decide ((k : Int) < 1) = false := by rw [decide_eq_false_iff_not]; omega
    have t2 : decide (3 < (k : Int)) = false := by rw [decide_eq_false_iff_not]; omega
    by_cases hb : 262144 < s.size
    · have HV : Kp (makeE k s = .returned (.tuple #[.string ⟨#[]⟩, .int .i64 (40 : Nat)])) := ⟨by unfold makeE makeV; rw [if_neg h0, if_pos hb]⟩
      go_enter Tryz.func105, Tryz.ntmps105
      go_wp2
      go_ret2
      exact ⟨HV.out.symm, Below.refl _ _⟩
    · have HV : Kp (makeE k s = .returned (.tuple #[.string (B (Fr.fr (UInt8.ofNat k) s.data.toList)), .int .i64 (0 : Nat)])) := ⟨by unfold makeE makeV; rw [if_neg h0, if_neg hb]⟩
      have HKB : Kp ((k : Int) = ((UInt8.ofNat k).toNat : Int)) := ⟨by rw [Fr.toNat_ofNat' hk]⟩
      have HFR : Kp (Fr.fr (UInt8.ofNat k) s.data.toList = (Var.fb 4 s.size ++ Var.fb 4 (Fr.sumL (UInt8.ofNat k :: s.data.toList))) ++ (UInt8.ofNat k :: s.data.toList)) := ⟨by simp [Fr.fr]⟩
      rw [HKB.out] at t1 t2
      generalize UInt8.ofNat k = b at HV HKB HFR t1 t2
      have hconv := one_text w b
      have HO := Kp.mk (fun w => refOf_any (⟨#[b]⟩ ++ s) w (by rw [ByteArray.size_append]; show 1 + s.size ≤ _; omega))
      rw [cons_text, B_list] at HO
      have hcl : Crc.crc (b :: s.data.toList) < 4294967296 := Crc.crc_lt (b :: s.data.toList)
      have HM : Kp (∀ w, Calls Tryz.prog 42 #[.int .u32 (Crc.crc (b :: s.data.toList) : Nat)] w fun e w' => e = .returned (.int .u32 (Fr.sumL (b :: s.data.toList) : Nat)) ∧ w = w') := ⟨fun w => refMask_any _ w hcl⟩
      have hml := Fr.sumL_lt (b :: s.data.toList)
      have hcat := cons_text b s
      have hB : Kp ((B (b :: s.data.toList)).data.toList = b :: s.data.toList) := ⟨B_list _⟩
      have hS : Kp ((B (b :: s.data.toList)).size = s.size + 1) := ⟨by rw [B_size]; simp⟩
      have HF1 := Kp.mk (fun w => refFixed_any s.size 4 w (by omega) (by decide))
      have HF2 := Kp.mk (fun w => refFixed_any (Fr.sumL (b :: s.data.toList)) 4 w (by omega) (by decide))
      have HB3 : Kp (B (Var.fb 4 s.size) ++ B (Var.fb 4 (Fr.sumL (b :: s.data.toList))) ++ B (b :: s.data.toList) = B (Fr.fr b s.data.toList)) := ⟨by
        rw [HFR.out, B_append, B_append]⟩
      have hz1 : (B (Var.fb 4 s.size)).size = 4 := by rw [B_size, Var.fb_length]
      have hz2 : (B (Var.fb 4 (Fr.sumL (b :: s.data.toList)))).size = 4 := by rw [B_size, Var.fb_length]
      generalize Crc.crc (b :: s.data.toList) = c at HO HM hcl
      generalize B (Var.fb 4 s.size) = A1 at HF1 HB3 hz1
      generalize B (Var.fb 4 (Fr.sumL (b :: s.data.toList))) = A2 at HF2 HB3 hz2
      generalize Fr.sumL (b :: s.data.toList) = m at HM hml HF2 HFR
      generalize B (b :: s.data.toList) = body at HO hcat hB hS HB3
      clear HFR
      have hsz := hS.out
      rw [HKB.out]
      go_enter Tryz.func105, Tryz.ntmps105
      go_wp2_with fail
      refine (HF1.out _).mono ?_
      rintro e w1 ⟨rfl, b1⟩
      have B1 := Kp.mk (((Below.refl _ w).alloc (Nat.le_refl _) _).trans (b1.mono (by simp)))
      clear b1
      go_wp2_with fail
      refine (HO.out _).mono ?_
      rintro e w' ⟨rfl, rfl⟩
      go_wp2_with fail
      refine (HM.out _).mono ?_
      rintro e w' ⟨rfl, rfl⟩
      go_wp2_with fail
      refine (HF2.out _).mono ?_
      rintro e w2 ⟨rfl, b2⟩
      have B2 := Kp.mk (B1.out.trans (b2.mono B1.out.size))
      clear b2
      go_wp2_with fail
      go_ret2
      exact ⟨by rw [HV.out, ← HB3.out]; rfl, B2.out⟩
end Go.Proofs.YtpfoekfbcpinlaaGreatDoor
/- The reference's Scan; both Ones; refused. -/
namespace Go.Proofs.YtpfoekfbcpinlaaGreatDoor
open Go.RowKit
set_option linter.unusedVariables false

theorem infoRefFrame : (Tryz.prog.info? 24).map (fun i => (i.zero, i.size, i.bytes)) = some (some (.agg #[.int .u8 0, .string ⟨#[]⟩, .int .i64 0]), 3, 32) := by kernel_rfl
theorem refScan_out (s : ByteArray) (a : Int) (w : World) (h0 : a < 0 ∨ (s.size : Int) < a) (hs : s.size ≤ 1000000000000) (h1 : -9223372036854775808 ≤ a) (h2 : a ≤ 9223372036854775807) :
    Calls Tryz.prog 85 #[.string s, .int .i64 a] w fun e w' => e = .returned (.tuple #[.slice none 0 0, .int .i64 0]) ∧ Below w.heap.size w w' := by
  by_cases h00 : a < 0
  · have t1 : decide (a < 0) = true := by rw [decide_eq_true_eq]; exact h00
    go_enter Tryz.func85, Tryz.ntmps85
    go_wp2
    go_ret2
    exact ⟨rfl, Below.refl _ _⟩
  · have t1 : decide (a < 0) = false := by rw [decide_eq_false_iff_not]; exact h00
    have t2 : decide ((s.size : Int) < a) = true := by rw [decide_eq_true_eq]; omega
    go_enter Tryz.func85, Tryz.ntmps85
    go_wp2
    go_ret2
    exact ⟨rfl, Below.refl _ _⟩
set_option maxRecDepth 100000 in
set_option maxHeartbeats 2000000 in
theorem refScan_in (s : ByteArray) (p0 : Nat) (w : World) (hs : s.size ≤ 1000000000000) (hp : p0 ≤ s.size) :
    Calls Tryz.prog 85 #[.string s, .int .i64 p0] w fun e w' => ∃ v, e = .returned (.tuple #[v, .int .i64 (scanL s.data.toList p0).2]) ∧ RK 3 w' v (scanL s.data.toList p0).1.length ((scanL s.data.toList p0).1.flatMap FrV.cells) ∧ (∀ k, blk v = some k → w.heap.size ≤ k) ∧ Below w.heap.size w w' := by
  have t1 : decide ((p0 : Int) < 0) = false := by rw [decide_eq_false_iff_not]; omega
  have t2 : decide ((s.size : Int) < (p0 : Int)) = false := by rw [decide_eq_false_iff_not]; omega
  have t3 : decide (s.size < p0) = false := by rw [decide_eq_false_iff_not]; omega
  obtain ⟨i0, hi0, hi1, hi2, hi3⟩ := info_parts infoRefFrame
  have HI := Kp.mk (And.intro hi0 (And.intro hi1 (And.intro hi2 hi3)))
  clear hi0 hi1 hi2 hi3
  go_enter Tryz.func85, Tryz.ntmps85
  go_wp2
  go_loopw [1, 6, 7, 8, 9] (fun at' out f nx er wr => ∃ (pre : List FrV) (q : Nat), 9 * pre.length ≤ q ∧ q ≤ s.size ∧ at' = .int .i64 q ∧ (scanL s.data.toList p0).1 = pre ++ (scanL s.data.toList q).1 ∧ (scanL s.data.toList p0).2 = (scanL s.data.toList q).2 ∧
      RK 3 wr out pre.length (pre.flatMap FrV.cells) ∧ (∀ k, blk out = some k → w.heap.size ≤ k) ∧ Below w.heap.size w wr)
    (fun at' _ _ _ _ _ => s.size - (intOf at').toNat)
  case atStart => exact ⟨[], p0, by simp, hp, rfl, by simp, rfl, RK.nil _ _, fun k hk => by simp [blk] at hk, Below.refl _ _⟩
  case round =>
    obtain ⟨pre, q, hpq, hq, rfl, hsc, hsd, hrow, hnew, hb⟩ := hrel
    have HR := Kp.mk (refRead_any s q wr (by omega) (by omega) (by omega))
    by_cases hr : (Fr.readL (s.data.toList.drop q)).1 = 0
    · rw [readE_at_ok hq hr] at HR
      have hx := frAt_next hr
      rw [data_len] at hx
      have hso := scanL_ok hr
      obtain ⟨x, hxx⟩ : ∃ x, frAt s.data.toList q = x := ⟨_, rfl⟩
      rw [hxx] at HR hx hso
      obtain ⟨k, y, a⟩ := x
      obtain ⟨N, hN⟩ : ∃ N, (⟨k, y, a⟩ : FrV).next = N := ⟨_, rfl⟩
      rw [hN] at HR hx hso
      have HSO := Kp.mk hso
      have HSC := Kp.mk hsc
      have HSD := Kp.mk hsd
      have HRow := Kp.mk hrow
      have HNew := Kp.mk hnew
      have HBel := Kp.mk hb
      unfold FrV.v at HR
      simp only [] at HR
      have hpl : pre.length + 1 ≤ maxLen := by unfold maxLen; omega
      have hpl2 : (pre.length + 1) * 32 ≤ 140737488355328 := by omega
      have HPL := Kp.mk (And.intro hpl hpl2)
      have HX := Kp.mk hx
      clear hso hsc hsd hrow hnew hb hxx hr hpl hpl2
      go_wp2_with fail
      refine HR.out.mono ?_
      rintro e w1 ⟨rfl, hb1⟩
      have HB1 := Kp.mk hb1
      have HIN := Kp.mk (show Src 3 ((w1.alloc (.cells #[.int .u8 k, .string (B y), .int .i64 a] 24)).alloc (.cells #[.int .u8 k, .string (B y), .int .i64 a] 24)) (.slice (some ⟨w1.heap.size + 1, 0, none⟩) 1 1) 1 [.int .u8 k, .string (B y), .int .i64 a] from src_one (heap_second _ _ _) rfl)
      have HRW := Kp.mk (((HRow.out.below hb1).alloc (.cells #[.int .u8 k, .string (B y), .int .i64 a] 24)).alloc (.cells #[.int .u8 k, .string (B y), .int .i64 a] 24))
      clear hb1
      go_wp2_with (at_builtin; go_loud (refine wpList_append_src rfl _ _ 113 rfl HRW.out HIN.out 24 i0 _ 32 Tryz.underlying113 HI.out.1 HI.out.2.1 HI.out.2.2.1 HI.out.2.2.2 rfl (by decide) rfl rfl (by simp [Value.oneCell']) HPL.out.1 HPL.out.2 _ _ rfl rfl ?_; intro ao cap w3 k1 k2 k3; have K1 := Kp.mk k1; have K2 := Kp.mk k2; have K3 := Kp.mk k3; clear k1 k2 k3))
      have hx := HX.out
      have hbz := HBel.out.size
      have hb1z := HB1.out.size
      go_roundw
      case rel =>
        refine ⟨pre ++ [⟨k, y, a⟩], N, by simp; omega, hx.2, rfl, by rw [HSC.out, HSO.out]; simp, by rw [HSD.out, HSO.out], by have := K1.out; simpa [FrV.cells] using this, fun j hj => ?_, ?_⟩
        · rcases K3.out j hj with h | h
          · exact HNew.out j h
          · simp at h; omega
        · exact (((HBel.out.trans (HB1.out.mono hbz)).alloc (by omega) _).alloc (by simp; omega) _).grown K2.out (by simp; omega) (fun j e => HNew.out j e)
      case measure => simp [intOf]; omega
    · rw [readE_at_bad hq hr] at HR
      have he := hr
      have hle := Fr.readL_err (s.data.toList.drop q)
      have hso := Kp.mk (scanL_end hr)
      obtain ⟨e0, he0⟩ : ∃ e0, (Fr.readL (s.data.toList.drop q)).1 = e0 := ⟨_, rfl⟩
      rw [he0] at HR he hle
      unfold Fr.badE at HR
      have t1 : ((e0 : Int) != 0) = true := by rw [bne_iff_ne]; omega
      have HSC := Kp.mk hsc
      have HSD := Kp.mk hsd
      have HRow := Kp.mk hrow
      have HNew := Kp.mk hnew
      have HBel := Kp.mk hb
      clear hsc hsd hrow hnew hb he0 hr
      go_wp2_with fail
      refine HR.out.mono ?_
      rintro e w1 ⟨rfl, hb1⟩
      have HB1 := Kp.mk hb1
      clear hb1
      go_wp2
      go_ret2
      have hbz := HBel.out.size
      have hb1z := HB1.out.size
      rw [HSC.out, HSD.out, hso.out, List.append_nil]
      exact ⟨_, rfl, (HRow.out.below HB1.out).alloc _, HNew.out, (HBel.out.trans (HB1.out.mono hbz)).alloc (by omega) _⟩
end Go.Proofs.YtpfoekfbcpinlaaGreatDoor
/- The reference's Scan at any place; both Ones. Printed by tools/oneg.py. -/
namespace Go.Proofs.YtpfoekfbcpinlaaGreatDoor
open Go.RowKit
set_option linter.unusedVariables false

theorem refScan_any (s : ByteArray) (a : Int) (w : World) (hs : s.size ≤ 1000000000000) (h1 : -9223372036854775808 ≤ a) (h2 : a ≤ 9223372036854775807) :
    Calls Tryz.prog 85 #[.string s, .int .i64 a] w fun e w' => ∃ v, e = .returned (.tuple #[v, .int .i64 (scanV s a).2]) ∧ RK 3 w' v (scanV s a).1.length ((scanV s a).1.flatMap FrV.cells) ∧ (∀ k, blk v = some k → w.heap.size ≤ k) ∧ Below w.heap.size w w' := by
  unfold scanV
  by_cases h0 : a < 0 ∨ (s.size : Int) < a
  · rw [if_pos h0]
    refine (refScan_out s a w h0 hs h1 h2).mono ?_
    rintro e w' ⟨rfl, hb⟩
    exact ⟨_, rfl, RK.nil _ _, fun k hk => by simp [blk] at hk, hb⟩
  · rw [if_neg h0]
    have := refScan_in s a.toNat w hs (by omega)
    rwa [show ((a.toNat : Nat) : Int) = a from by omega] at this
/-- One's answer. -/
def oneV (s : ByteArray) (kd : Nat) : ByteArray × Bool :=
  if (Fr.readL s.data.toList).1 = 0 ∧ (Fr.readL s.data.toList).2.2.length + 9 = s.size ∧ (Fr.readL s.data.toList).2.1 = kd then (B (Fr.readL s.data.toList).2.2, true) else (⟨#[]⟩, false)
theorem readE_zero (s : ByteArray) : Fr.readE s 0 = .returned (.tuple #[.agg #[.int .u8 (Fr.readL s.data.toList).2.1, .string (B (Fr.readL s.data.toList).2.2), .int .i64 0], .int .i64 (Fr.nxt (Fr.readL s.data.toList) 0), .int .i64 (Fr.readL s.data.toList).1]) := by
  unfold Fr.readE Fr.frv
  rw [show Fr.readV s 0 = Fr.readL s.data.toList from by have := readV_at (s := s) (p := 0) (Nat.zero_le _); simpa using this]
  simp
set_option maxRecDepth 20000 in
theorem One_any (s : ByteArray) (kd : Nat) (w : World) (hs : s.size ≤ 1000000000000) (hk : kd < 256) (ht : Tab w) :
    Calls Tryz.prog 98 #[.string s, .int .u8 kd] w fun e w' => e = .returned (.tuple #[.string (oneV s kd).1, .bool (oneV s kd).2]) ∧ Below w.heap.size w w' := by
  have HR := Kp.mk (Read_any s 0 w (by omega) (by omega) (by omega) ht)
  rw [readE_zero] at HR
  have hk1 := Fr.readL_kind s.data.toList
  have he := Fr.readL_err s.data.toList
  have HV : Kp (oneV s kd = if (Fr.readL s.data.toList).1 = 0 ∧ (Fr.readL s.data.toList).2.2.length + 9 = s.size ∧ (Fr.readL s.data.toList).2.1 = kd then (B (Fr.readL s.data.toList).2.2, true) else (⟨#[]⟩, false)) := ⟨rfl⟩
  have hn : (Fr.readL s.data.toList).1 = 0 → Fr.nxt (Fr.readL s.data.toList) 0 = (((Fr.readL s.data.toList).2.2.length + 9 : Nat) : Int) := fun h => by
    unfold Fr.nxt; rw [if_pos h]; omega
  generalize Fr.readL s.data.toList = r at *
  obtain ⟨e0, k, y⟩ := r
  simp only [] at *
  generalize Fr.nxt (e0, k, y) 0 = N at *
  by_cases c0 : e0 = 0
  · have hn' := hn c0
    clear hn
    subst c0
    by_cases c1 : y.length + 9 = s.size
    · rw [c1] at hn'
      subst hn'
      by_cases c2 : k = kd
      · subst c2
        rw [if_pos ⟨rfl, c1, rfl⟩] at HV
        go_enter Tryz.func98, Tryz.ntmps98
        go_wp2_with fail
        refine HR.out.mono ?_
        rintro e w1 ⟨rfl, hb⟩
        have HB := Kp.mk (hb.alloc hb.size (.cells #[.int .u8 k, .string (B y), .int .i64 0] 141))
        clear hb
        go_wp2
        go_ret2
        exact ⟨by rw [HV.out]; rfl, HB.out⟩
      · rw [if_neg (fun h => c2 h.2.2)] at HV
        have t1 : ((k : Int) != (kd : Int)) = true := by simp; omega
        go_enter Tryz.func98, Tryz.ntmps98
        go_wp2_with fail
        refine HR.out.mono ?_
        rintro e w1 ⟨rfl, hb⟩
        have HB := Kp.mk (hb.alloc hb.size (.cells #[.int .u8 k, .string (B y), .int .i64 0] 141))
        clear hb
        go_wp2
        go_ret2
        exact ⟨by rw [HV.out]; rfl, HB.out⟩
    · rw [if_neg (fun h => c1 h.2.1)] at HV
      have t1 : (N != (s.size : Int)) = true := by simp; omega
      go_enter Tryz.func98, Tryz.ntmps98
      go_wp2_with fail
      refine HR.out.mono ?_
      rintro e w1 ⟨rfl, hb⟩
      have HB := Kp.mk (hb.alloc hb.size (.cells #[.int .u8 k, .string (B y), .int .i64 0] 141))
      clear hb
      go_wp2
      go_ret2
      exact ⟨by rw [HV.out]; rfl, HB.out⟩
  · rw [if_neg (fun h => c0 h.1)] at HV
    have t1 : ((e0 : Int) != 0) = true := by simp; omega
    go_enter Tryz.func98, Tryz.ntmps98
    go_wp2_with fail
    refine HR.out.mono ?_
    rintro e w1 ⟨rfl, hb⟩
    have HB := Kp.mk (hb.alloc hb.size (.cells #[.int .u8 k, .string (B y), .int .i64 0] 141))
    clear hb
    go_wp2
    go_ret2
    exact ⟨by rw [HV.out]; rfl, HB.out⟩
end Go.Proofs.YtpfoekfbcpinlaaGreatDoor
/- The laws' all. -/
namespace Go.Proofs.YtpfoekfbcpinlaaGreatDoor
open Go.RowKit
set_option linter.unusedVariables false

def sameF (f g : FrV) : Bool := decide (f.k = g.k) && (decide (f.p = g.p) && decide ((f.a : Int) = (g.a : Int)))
theorem sameF_iff (f g : FrV) : sameF f g = true ↔ f = g := by
  obtain ⟨k, p, a⟩ := f
  obtain ⟨k', p', a'⟩ := g
  simp [sameF]
  omega
def allF : List FrV → List FrV → Bool
  | [], [] => true
  | f :: l, g :: m => sameF f g && allF l m
  | _, _ => false
theorem allF_iff (l m : List FrV) : allF l m = true ↔ l = m := by
  induction l generalizing m with
  | nil => cases m <;> simp [allF]
  | cons f l ih => cases m with
    | nil => simp [allF]
    | cons g m => simp [allF, sameF_iff, ih]
theorem cells_get (l : List FrV) (i : Nat) (h : i < l.length) : (l.flatMap FrV.cells)[i * 3]? = some (.int .u8 l[i].k) ∧ (l.flatMap FrV.cells)[i * 3 + 1]? = some (.string (B l[i].p)) ∧ (l.flatMap FrV.cells)[i * 3 + 2]? = some (.int .i64 l[i].a) := by
  induction l generalizing i with
  | nil => simp at h
  | cons f l ih =>
    cases i with
    | zero => simp [FrV.cells]
    | succ i =>
      have := ih i (by simpa using h)
      simp only [List.flatMap_cons, FrV.cells, List.getElem_cons_succ] at this ⊢
      rw [show (i + 1) * 3 = 3 + i * 3 from by omega, show 3 + i * 3 + 1 = 3 + (i * 3 + 1) from by omega, show 3 + i * 3 + 2 = 3 + (i * 3 + 2) from by omega]
      rw [List.getElem?_append_right (by simp), List.getElem?_append_right (by simp), List.getElem?_append_right (by simp)]
      simpa using this
theorem take_step (l m : List FrV) (k : Nat) (h1 : k < l.length) (h2 : k < m.length) (h : l.take k = m.take k) (he : l[k] = m[k]) : l.take (k + 1) = m.take (k + 1) := by
  rw [List.take_succ_eq_append_getElem h1, List.take_succ_eq_append_getElem h2, h, he]
end Go.Proofs.YtpfoekfbcpinlaaGreatDoor
/- The laws' refused. -/
namespace Go.Proofs.YtpfoekfbcpinlaaGreatDoor
open Go.RowKit
set_option linter.unusedVariables false

theorem readV_bad {s : ByteArray} {a : Int} (h : (Fr.readV s a).1 ≠ 0) : Fr.readV s a = ((Fr.readV s a).1, 0, []) := by
  unfold Fr.readV at h ⊢
  split
  · rfl
  · rename_i h0
    rw [if_neg h0] at h
    exact Prod.ext rfl (Fr.readL_bad h)
end Go.Proofs.YtpfoekfbcpinlaaGreatDoor
/- Frames, put together, are scanned as they are: the plain law. -/
namespace Go.Proofs.YtpfoekfbcpinlaaGreatDoor
open Go.RowKit
set_option linter.unusedVariables false

/-- A part: a kind and a payload. -/
structure PartV where
  k : Nat
  p : List UInt8
def PartV.ok (x : PartV) : Prop := 1 ≤ x.k ∧ x.k ≤ 3 ∧ x.p.length ≤ 262144
def PartV.b (x : PartV) : List UInt8 := Fr.fr (UInt8.ofNat x.k) x.p
theorem PartV.len (x : PartV) : x.b.length = x.p.length + 9 := Fr.fr_length _ _
/-- The frames of a row that begins at a place. -/
def framesAt (q : Nat) : List PartV → List FrV
  | [] => []
  | x :: r => ⟨x.k, x.p, q⟩ :: framesAt (q + 9 + x.p.length) r
def rowB (l : List PartV) : List UInt8 := l.flatMap PartV.b
theorem rowB_cons (x : PartV) (r : List PartV) : rowB (x :: r) = x.b ++ rowB r := by simp [rowB]
theorem scan_row (l : List PartV) (hl : ∀ x ∈ l, x.ok) (tail : List UInt8) (ht : (Fr.readL tail).1 ≠ 0) : ∀ pre : List UInt8, scanL (pre ++ rowB l ++ tail) pre.length = (framesAt pre.length l, pre.length + (rowB l).length) := by
  induction l with
  | nil =>
    intro pre
    have hd : (pre ++ rowB [] ++ tail).drop pre.length = tail := by simp [rowB]
    rw [scanL_end (by rw [hd]; exact ht)]
    simp [framesAt, rowB]
  | cons x r ih =>
    intro pre
    obtain ⟨h1, h2, h3⟩ := hl x (List.mem_cons_self ..)
    have hd : (pre ++ rowB (x :: r) ++ tail).drop pre.length = Fr.fr (UInt8.ofNat x.k) x.p ++ (rowB r ++ tail) := by
      rw [rowB_cons, List.append_assoc, List.drop_left' rfl, List.append_assoc]; rfl
    have hr := Fr.readL_fr (rowB r ++ tail) h1 h2 h3
    rw [← hd] at hr
    have hf : frAt (pre ++ rowB (x :: r) ++ tail) pre.length = ⟨x.k, x.p, pre.length⟩ := by unfold frAt; rw [hr]
    have e : pre ++ rowB (x :: r) ++ tail = (pre ++ x.b) ++ rowB r ++ tail := by rw [rowB_cons]; simp
    have hn : (⟨x.k, x.p, pre.length⟩ : FrV).next = (pre ++ x.b).length := by
      rw [List.length_append, PartV.len]; unfold FrV.next; simp only []; omega
    rw [scanL_ok (by rw [hr]), hf, hn, e, ih (fun y hy => hl y (List.mem_cons_of_mem _ hy)) (pre ++ x.b)]
    have hl2 : (pre ++ x.b).length = pre.length + 9 + x.p.length := by rw [List.length_append, PartV.len]; omega
    rw [hl2, rowB_cons]
    simp only [framesAt, List.length_append, PartV.len, Prod.mk.injEq, true_and]
    omega
end Go.Proofs.YtpfoekfbcpinlaaGreatDoor
/- Frames cut short, or with one byte another one: the plain laws. -/
namespace Go.Proofs.YtpfoekfbcpinlaaGreatDoor
open Go.RowKit
set_option linter.unusedVariables false

namespace Crc
theorem xor_cancel_right {a b c : Nat} (h : a ^^^ c = b ^^^ c) : a = b := by
  rw [Nat.xor_comm a, Nat.xor_comm b] at h
  exact xor_cancel_left h
theorem upd_inj (l : List UInt8) : ∀ {c d : Nat}, c < 2 ^ 32 → d < 2 ^ 32 → upd c l = upd d l → c = d := by
  induction l with
  | nil => intro c d _ _ h; exact h
  | cons b l ih =>
    intro c d hc hd h
    have h1 := ih (byte_lt hc b) (byte_lt hd b) h
    exact xor_cancel_right (steps_inj 8 (Nat.xor_lt_two_pow hc (u8_lt b)) (Nat.xor_lt_two_pow hd (u8_lt b)) h1)
theorem crc_set (l : List UInt8) (d : Nat) (y : UInt8) (h : crc (l.set d y) = crc l) : l.set d y = l := by
  rcases Nat.lt_or_ge d l.length with hd | hd
  · have e1 : l = l.take d ++ l[d] :: l.drop (d + 1) := by rw [List.getElem_cons_drop, List.take_append_drop]
    have e2 : l.set d y = l.take d ++ y :: l.drop (d + 1) := by rw [List.set_eq_take_append_cons_drop, if_pos hd]
    have h1 := add_eq_iff.1 h
    rw [e2] at h1
    conv at h1 => rhs; rw [e1]
    rw [upd_append, upd_append, upd_cons, upd_cons] at h1
    have hc := upd_lt (c := 0 ^^^ ones) (by decide) (l.take d)
    have h2 := upd_inj _ (byte_lt hc y) (byte_lt hc l[d]) h1
    have h3 := steps_inj 8 (Nat.xor_lt_two_pow hc (u8_lt y)) (Nat.xor_lt_two_pow hc (u8_lt l[d])) h2
    have h4 : y = l[d] := UInt8.toNat_inj.1 (xor_cancel_left h3)
    rw [h4]
    exact List.set_getElem_self hd
  · exact List.set_eq_of_length_le hd
end Crc
namespace Fr
theorem sumL_set (l : List UInt8) (d : Nat) (y : UInt8) (h : sumL (l.set d y) = sumL l) : l.set d y = l :=
  Crc.crc_set l d y (Crc.mask_inj (Crc.crc_lt _) (Crc.crc_lt _) h)
theorem num_take (l : List UInt8) {j : Nat} (h : 4 ≤ j) : num (l.take j) = num l := by
  unfold num; rw [List.take_take, Nat.min_eq_left h]
theorem num_fr (b : UInt8) (p m : List UInt8) (hp : p.length < 4294967296) : num (fr b p ++ m) = p.length := by
  unfold num
  have e0 : fr b p ++ m = Var.fb 4 p.length ++ (Var.fb 4 (sumL (b :: p)) ++ (b :: (p ++ m))) := by simp [fr]
  rw [e0, List.take_left' (Var.fb_length 4 _), Var.fv_fb]
  exact Nat.mod_eq_of_lt hp
theorem readL_torn (b : UInt8) (p r : List UInt8) (hp : p.length ≤ 262144) {j : Nat} (hj : j < p.length + 9) : (readL ((fr b p ++ r).take j)).1 ≠ 0 := by
  intro h
  obtain ⟨h1, h2, h3, h4, h5, _⟩ := readL_ok h
  have hl : ((fr b p ++ r).take j).length = j := by rw [List.length_take, List.length_append, fr_length]; omega
  rw [hl] at h1 h3
  rw [num_take _ (by omega), num_fr _ _ _ (by omega)] at h3
  omega
theorem readL_nil : (readL []).1 ≠ 0 := by decide
theorem fb_inj {k a b : Nat} (ha : a < 256 ^ k) (hb : b < 256 ^ k) (h : Var.fb k a = Var.fb k b) : a = b := by
  have := congrArg Var.fv h
  rwa [Var.fv_fb, Var.fv_fb, Nat.mod_eq_of_lt ha, Nat.mod_eq_of_lt hb] at this
/-- A frame with one byte another one. -/
theorem readL_bent (b : UInt8) (p r : List UInt8) (hp : p.length ≤ 262144) {d : Nat} (hd : d < p.length + 9) (y : UInt8) (hy : (fr b p).set d y ≠ fr b p) (h : (readL ((fr b p ++ r).set d y)).1 = 0) :
    (readL ((fr b p ++ r).set d y)).2.2.length ≠ p.length ∧ d < 4 := by
  obtain ⟨h1, h2, h3, m, h4⟩ := readL_is h
  obtain ⟨_, _, _, _, _, hro⟩ := readL_ok h
  generalize (readL ((fr b p ++ r).set d y)).2.1 = k' at *
  have hne : (readL ((fr b p ++ r).set d y)).2.2.length ≠ p.length := by
    intro hn
    generalize (readL ((fr b p ++ r).set d y)).2.2 = p' at *
    have e1 : (fr b p ++ r).set d y = (fr b p).set d y ++ r := List.set_append_left _ _ (by rw [fr_length]; exact hd)
    rw [e1] at h4
    have e2 : (fr b p).set d y = fr (UInt8.ofNat k') p' := (List.append_inj h4 (by rw [List.length_set, fr_length, fr_length, hn])).1
    generalize UInt8.ofNat k' = b' at *
    unfold fr at e2 hy
    rw [hn] at e2
    have l4 : (Var.fb 4 p.length).length = 4 := Var.fb_length 4 _
    have l4' : (Var.fb 4 (sumL (b :: p))).length = 4 := Var.fb_length 4 _
    have l4'' : (Var.fb 4 (sumL (b' :: p'))).length = 4 := Var.fb_length 4 _
    rcases Nat.lt_or_ge d 4 with hd4 | hd4
    · rw [List.set_append_left _ _ (by rw [l4]; exact hd4)] at e2 hy
      have e3 := (List.append_inj e2 (by rw [List.length_set])).1
      rw [e3] at hy
      exact hy rfl
    · rw [List.set_append_right _ _ (by rw [l4]; exact hd4), l4] at e2 hy
      have e3 := List.append_cancel_left e2
      rcases Nat.lt_or_ge (d - 4) 4 with hd8 | hd8
      · rw [List.set_append_left _ _ (by rw [l4']; exact hd8)] at e3 hy
        obtain ⟨e4, e5⟩ := List.append_inj e3 (by rw [List.length_set, l4', l4''])
        rw [← e5] at e4
        rw [e4] at hy
        exact hy rfl
      · rw [List.set_append_right _ _ (by rw [l4']; exact hd8), l4'] at e3 hy
        obtain ⟨e4, e5⟩ := List.append_inj e3 (by rw [l4', l4''])
        have e6 := fb_inj (by exact sumL_lt _) (by exact sumL_lt _) e4
        rw [← e5] at e6
        have e7 := sumL_set _ _ _ e6.symm
        rw [e7] at hy
        exact hy rfl
  refine ⟨hne, ?_⟩
  rcases Nat.lt_or_ge d 4 with hd4 | hd4
  · exact hd4
  · exfalso
    apply hne
    have hnum : num ((fr b p ++ r).set d y) = p.length := by
      rw [← num_fr b p r (by omega)]
      unfold num
      rw [List.take_set_of_le hd4]
    rw [hro, hnum]
    simp only []
    rw [List.length_take, List.length_drop, List.length_set, List.length_append, fr_length]
    omega
end Fr
/-- Where frames stand one behind the other, and then anything: they are scanned, and then what is there. -/
theorem scan_pre (l : List PartV) (hl : ∀ x ∈ l, x.ok) (tail : List UInt8) : ∀ pre : List UInt8, scanL (pre ++ rowB l ++ tail) pre.length = (framesAt pre.length l ++ (scanL (pre ++ rowB l ++ tail) (pre.length + (rowB l).length)).1, (scanL (pre ++ rowB l ++ tail) (pre.length + (rowB l).length)).2) := by
  induction l with
  | nil => intro pre; simp [framesAt, rowB]
  | cons x r ih =>
    intro pre
    obtain ⟨h1, h2, h3⟩ := hl x (List.mem_cons_self ..)
    have hd : (pre ++ rowB (x :: r) ++ tail).drop pre.length = Fr.fr (UInt8.ofNat x.k) x.p ++ (rowB r ++ tail) := by
      rw [rowB_cons, List.append_assoc, List.drop_left' rfl, List.append_assoc]; rfl
    have hr := Fr.readL_fr (rowB r ++ tail) h1 h2 h3
    rw [← hd] at hr
    have hf : frAt (pre ++ rowB (x :: r) ++ tail) pre.length = ⟨x.k, x.p, pre.length⟩ := by unfold frAt; rw [hr]
    have e : pre ++ rowB (x :: r) ++ tail = (pre ++ x.b) ++ rowB r ++ tail := by rw [rowB_cons]; simp
    have hn : (⟨x.k, x.p, pre.length⟩ : FrV).next = (pre ++ x.b).length := by
      rw [List.length_append, PartV.len]; unfold FrV.next; simp only []; omega
    have hl2 : (pre ++ x.b).length = pre.length + 9 + x.p.length := by rw [List.length_append, PartV.len]; omega
    have hl3 : pre.length + (rowB (x :: r)).length = (pre ++ x.b).length + (rowB r).length := by rw [rowB_cons, List.length_append, List.length_append]; omega
    rw [scanL_ok (by rw [hr]), hf, hn, e, ih (fun y hy => hl y (List.mem_cons_of_mem _ hy)) (pre ++ x.b), ← e, hl3, hl2]
    simp only [framesAt, List.cons_append]
end Go.Proofs.YtpfoekfbcpinlaaGreatDoor
/- Plain law: what Put leaves on a disk; which head counts then. -/
namespace Go.Proofs.YtpfoekfbcpinlaaGreatDoor
open Go.RowKit
set_option linter.unusedVariables false

namespace Fr
end Fr
namespace Hd
theorem bytes_list (h : HV) : (bytesV h).data.toList = Fr.fr 3 h.enc := B_list _
theorem bytes_size (h : HV) : (bytesV h).size = h.enc.length + 9 := by unfold bytesV; rw [B_size, Fr.fr_length]
theorem ofV_fr {h : HV} (hm : h.may = true) (m : List UInt8) : ofV (Fr.fr 3 h.enc ++ m) = (h, true) := by
  have hr := Fr.readL_fr (k := 3) (p := h.enc) m (by decide) (by decide) (by have := enc_len hm; omega)
  have e3 : (UInt8.ofNat 3) = 3 := rfl
  rw [e3] at hr
  unfold ofV
  rw [hr, if_pos ⟨rfl, rfl⟩]
  simp only [dec_enc hm, decide_true]
theorem ofV_bytes {h : HV} (hm : h.may = true) : ofV (bytesV h).data.toList = (h, true) := by
  rw [bytes_list]
  have := ofV_fr hm []
  rwa [List.append_nil] at this
theorem ofV_bad {l : List UInt8} (h : (Fr.readL l).1 ≠ 0) : ofV l = (HV.zero, false) := by
  unfold ofV
  rw [if_neg (fun hh => h hh.1)]
theorem ofV_nil : ofV [] = (HV.zero, false) := ofV_bad (by decide)
theorem ofV_torn {h : HV} (hm : h.may = true) {j : Nat} (hj : j < (bytesV h).size) : ofV ((bytesV h).extract 0 j).data.toList = (HV.zero, false) := by
  have e : ((bytesV h).extract 0 j).data.toList = (Fr.fr 3 h.enc ++ []).take j := by
    rw [List.append_nil, ← bytes_list]
    simp [ByteArray.data_extract]
  rw [e]
  rw [bytes_size] at hj
  exact ofV_bad (Fr.readL_torn 3 h.enc [] (by have := enc_len hm; omega) hj)
theorem ofV_cases (l : List UInt8) : ofV l = (HV.zero, false) ∨ ∃ h : HV, h.may = true ∧ ofV l = (h, true) := by
  unfold ofV
  by_cases h : (Fr.readL l).1 = 0 ∧ (Fr.readL l).2.1 = 3
  · rw [if_pos h]
    generalize hd : decV (Fr.readL l).2.2 = V
    obtain ⟨q, e⟩ := V
    by_cases he : e = 0
    · subst he
      exact .inr ⟨q, (dec_may hd).1, by simp⟩
    · exact .inl (by simp [he, dec_no hd he])
  · rw [if_neg h]
    exact .inl rfl
/-- .. as numbers: of nothing the generation is 0, of a head it is more. -/
theorem ofV_gen (l : List UInt8) : ((ofV l).2 = true ↔ (ofV l).1.gen ≠ 0) ∧ 0 ≤ (ofV l).1.gen ∧ ((ofV l).2 = false → (ofV l).1 = HV.zero) ∧ ((ofV l).2 = true → (ofV l).1.may = true) := by
  rcases ofV_cases l with h | ⟨q, hq, h⟩
  · rw [h]
    exact ⟨⟨fun h => (by cases h), fun h => absurd rfl h⟩, Int.le_refl _, fun _ => rfl, fun h => (by cases h)⟩
  · rw [h]
    have := (may_first hq).1
    exact ⟨⟨fun _ => (by show q.gen ≠ 0; omega), fun _ => rfl⟩, (by show 0 ≤ q.gen; omega), fun h => (by cases h), fun _ => hq⟩
theorem loadV_none {x y : HV × Bool} (hx : x.1.gen = 0) (hy : y.1.gen = 0) : loadV x y = (HV.zero, 0, false) := if_pos ⟨hx, hy⟩
theorem loadV_left {x y : HV × Bool} (hx : x.1.gen ≠ 0) (h : y.1.gen ≤ x.1.gen) : loadV x y = (x.1, 0, true) := by
  unfold loadV
  rw [if_neg (fun hh => hx hh.1), if_pos h]
theorem loadV_right {x y : HV × Bool} (h0 : 0 ≤ x.1.gen) (h : x.1.gen < y.1.gen) : loadV x y = (y.1, 1, true) := by
  unfold loadV
  rw [if_neg (fun hh => by omega), if_neg (by omega)]
theorem other_le (D : DiskV) : otherV D ≤ 1 := by
  unfold otherV
  have := diskV_tape D
  split <;> omega
theorem op_eq (D : DiskV) (t : Nat) (may : Int) (dov torn : TapeV → TapeV) (hd : D.down = false) (ht : t < 32) (hm : may = 0) :
    opV D t may dov torn = if (failsV D).1 = true then (45, setT (failsV D).2 t (torn (D.tp t))) else (0, setT (failsV D).2 t (dov (D.tp t))) := by
  unfold opV
  rw [if_neg (by simp [hd]), if_neg (by omega), if_neg (fun h => h hm), Int.toNat_natCast]
theorem op_ref (D : DiskV) (t : Nat) (may : Int) (dov torn : TapeV → TapeV) (hd : D.down = false) (ht : t < 32) (hm : may ≠ 0) : opV D t may dov torn = (may, D) := by
  unfold opV
  rw [if_neg (by simp [hd]), if_neg (by omega), if_pos hm]
theorem fails_down {D : DiskV} (hd : D.down = false) : (failsV D).2.down = (failsV D).1 := by
  unfold failsV
  split
  · exact hd
  · rfl
theorem fails_off {D : DiskV} (hc : D.counts = false) : failsV D = (false, D) := by unfold failsV; rw [if_pos hc]
/-- What Put leaves. -/
theorem putV_out {D : DiskV} {h : HV} (hm : h.may = true) (hd : D.down = false) (ho : Ok D) :
    (∀ k, k ≠ otherV D → (putV D h).2.tp k = D.tp k) ∧ (putV D h).2.cap = D.cap ∧
    (((putV D h).1 = 45 ∧ (putV D h).2.down = true ∧ ((putV D h).2.tp (otherV D) = D.tp (otherV D) ∨ (putV D h).2.tp (otherV D) = ⟨bytesV h, 0⟩)) ∨
     ((putV D h).1 = 44 ∧ (putV D h).2.down = false ∧ (putV D h).2.tp (otherV D) = ⟨⟨#[]⟩, 0⟩) ∨
     ((putV D h).1 = 0 ∧ (putV D h).2.down = false ∧ (putV D h).2.tp (otherV D) = ⟨bytesV h, (bytesV h).size⟩)) := by
  have hs := bytes_size h
  have hel := enc_len hm
  have ht : otherV D < 32 := by have := other_le D; omega
  unfold putV
  rw [if_neg (by simp [hm]), if_neg (by simp [hd])]
  generalize otherV D = t at ht ⊢
  generalize bytesV h = s at hs ⊢
  have ew : wipeV D t = if (failsV D).1 = true then (45, setT (failsV D).2 t (D.tp t)) else (0, setT (failsV D).2 t ⟨⟨#[]⟩, 0⟩) := op_eq D t 0 _ _ hd ht rfl
  have hfd := fails_down hd
  have hft := fails_tp D
  have hfc := fails_cap D
  cases hf : (failsV D).1
  · rw [hf] at ew hfd
    simp only [Bool.false_eq_true, if_false] at ew
    rw [ew]
    simp only [ne_eq, not_true_eq_false, if_false]
    generalize hD1 : setT (failsV D).2 t ⟨⟨#[]⟩, 0⟩ = D1
    have d1 : D1.down = false := by rw [← hD1]; exact hfd
    have c1 : D1.cap = D.cap := by rw [← hD1]; exact hfc
    have t1 : D1.tp t = ⟨⟨#[]⟩, 0⟩ := by rw [← hD1]; exact setT_same _ _ _
    have o1 : ∀ k, k ≠ t → D1.tp k = D.tp k := fun k hk => by rw [← hD1, setT_other _ _ _ _ hk, hft]
    have ed : writeV D1 t s = opV D1 t (writeMay D1 (D1.tp t).b s) (fun x => ⟨x.b ++ s, x.firm⟩) (fun x => ⟨x.b ++ s, x.firm⟩) := by unfold writeV; rw [Int.toNat_natCast]
    have hsz : (⟨⟨#[]⟩, 0⟩ : TapeV).b ++ s = s := by show (⟨#[]⟩ : ByteArray) ++ s = s; exact ByteArray.empty_append
    by_cases hmay : writeMay D1 (D1.tp t).b s = 0
    · rw [op_eq D1 t _ _ _ d1 ht hmay, t1] at ed
      simp only [] at ed
      rw [hsz] at ed
      have hfd1 := fails_down d1
      have hft1 := fails_tp D1
      have hfc1 := fails_cap D1
      cases hf1 : (failsV D1).1
      · rw [hf1] at ed hfd1
        simp only [Bool.false_eq_true, if_false] at ed
        rw [ed]
        simp only [not_true_eq_false, if_false]
        generalize hD2 : setT (failsV D1).2 t ⟨s, 0⟩ = D2
        have d2 : D2.down = false := by rw [← hD2]; exact hfd1
        have c2 : D2.cap = D.cap := by rw [← hD2]; exact hfc1.trans c1
        have t2 : D2.tp t = ⟨s, 0⟩ := by rw [← hD2]; exact setT_same _ _ _
        have o2 : ∀ k, k ≠ t → D2.tp k = D.tp k := fun k hk => by rw [← hD2, setT_other _ _ _ _ hk, hft1, o1 k hk]
        have es : syncV D2 t = if (failsV D2).1 = true then (45, setT (failsV D2).2 t (D2.tp t)) else (0, setT (failsV D2).2 t ⟨(D2.tp t).b, (D2.tp t).b.size⟩) := op_eq D2 t 0 _ _ d2 ht rfl
        have hfd2 := fails_down d2
        have hft2 := fails_tp D2
        have hfc2 := fails_cap D2
        cases hf2 : (failsV D2).1
        · rw [hf2] at es hfd2
          simp only [Bool.false_eq_true, if_false] at es
          rw [es, t2]
          refine ⟨fun k hk => by rw [setT_other _ _ _ _ hk, hft2, o2 k hk], hfc2.trans c2, .inr (.inr ⟨rfl, hfd2, setT_same _ _ _⟩)⟩
        · rw [hf2] at es hfd2
          simp only [if_true] at es
          rw [es, t2]
          refine ⟨fun k hk => by rw [setT_other _ _ _ _ hk, hft2, o2 k hk], hfc2.trans c2, .inl ⟨rfl, hfd2, .inr (setT_same _ _ _)⟩⟩
      · rw [hf1] at ed hfd1
        simp only [if_true] at ed
        rw [ed]
        rw [if_pos (show ¬ (45 : Int) = 0 by decide)]
        refine ⟨fun k hk => by rw [setT_other _ _ _ _ hk, hft1, o1 k hk], hfc1.trans c1, .inl ⟨rfl, hfd1, .inr (setT_same _ _ _)⟩⟩
    · rw [op_ref D1 t _ _ _ d1 ht hmay] at ed
      have h44 : writeMay D1 (D1.tp t).b s = 44 := by
        unfold writeMay at hmay ⊢
        rw [t1] at hmay ⊢
        rw [if_neg (by show ¬ (1048576 : Int) - ((⟨#[]⟩ : ByteArray).size : Nat) < (s.size : Nat); have : (⟨#[]⟩ : ByteArray).size = 0 := rfl; omega)] at hmay ⊢
        split at hmay
        · rename_i hx; rw [if_pos hx]
        · exact absurd rfl hmay
      rw [ed, h44, if_pos (show ¬ (44 : Int) = 0 by decide)]
      exact ⟨o1, c1, .inr (.inl ⟨rfl, d1, t1⟩)⟩
  · rw [hf] at ew hfd
    simp only [if_true] at ew
    rw [ew, if_pos (show (45 : Int) ≠ 0 by decide)]
    exact ⟨fun k hk => by rw [setT_other _ _ _ _ hk, hft], hfc, .inl ⟨rfl, hfd, .inl (setT_same _ _ _)⟩⟩
/-- .. on a disk that does not fail, with room. -/
theorem putV_room {D : DiskV} {h : HV} (hm : h.may = true) (hd : D.down = false) (hc : D.counts = false) (hr : (used D.tp 32 : Int) - (D.tp (otherV D)).b.size + (h.enc.length + 9) ≤ D.cap) :
    putV D h = (0, setT D (otherV D) ⟨bytesV h, (bytesV h).size⟩) := by
  have hs := bytes_size h
  have hel := enc_len hm
  have ht : otherV D < 32 := by have := other_le D; omega
  unfold putV
  rw [if_neg (by simp [hm]), if_neg (by simp [hd])]
  generalize otherV D = t at ht hr ⊢
  generalize bytesV h = s at hs ⊢
  have ew : wipeV D t = (0, setT D t ⟨⟨#[]⟩, 0⟩) := by
    have : wipeV D t = _ := op_eq D t 0 _ _ hd ht rfl
    rw [this, fails_off hc]; rfl
  have hu := used_setT D t ⟨⟨#[]⟩, 0⟩ ht
  have hz : (⟨#[]⟩ : ByteArray).size = 0 := rfl
  have ed : writeV (setT D t ⟨⟨#[]⟩, 0⟩) t s = (0, setT D t ⟨s, 0⟩) := by
    have hmay : writeMay (setT D t ⟨⟨#[]⟩, 0⟩) ((setT D t ⟨⟨#[]⟩, 0⟩).tp t).b s = 0 := by
      unfold writeMay
      rw [setT_same]
      have hcap : (setT D t ⟨⟨#[]⟩, 0⟩).cap = D.cap := rfl
      rw [hcap]
      simp only [hz] at hu ⊢
      rw [if_neg (by omega), if_neg (by omega)]
    have hsz : (⟨#[]⟩ : ByteArray) ++ s = s := ByteArray.empty_append
    unfold writeV
    rw [Int.toNat_natCast]
    have hdd : (setT D t ⟨⟨#[]⟩, 0⟩).down = false := hd
    have hcc : (setT D t ⟨⟨#[]⟩, 0⟩).counts = false := hc
    rw [op_eq _ t _ _ _ hdd ht hmay, fails_off hcc, setT_same]
    simp only [Bool.false_eq_true, if_false, hsz, setT_twice]
  have es : syncV (setT D t ⟨s, 0⟩) t = (0, setT D t ⟨s, s.size⟩) := by
    have hdd : (setT D t ⟨s, 0⟩).down = false := hd
    have hcc : (setT D t ⟨s, 0⟩).counts = false := hc
    have : syncV (setT D t ⟨s, 0⟩) t = _ := op_eq _ t 0 _ _ hdd ht rfl
    rw [this, fails_off hcc, setT_same]
    simp only [Bool.false_eq_true, if_false, setT_twice]
  rw [ew]
  simp only [ne_eq, not_true_eq_false, if_false]
  rw [ed]
  simp only [not_true_eq_false, if_false]
  exact es
end Hd
end Go.Proofs.YtpfoekfbcpinlaaGreatDoor
