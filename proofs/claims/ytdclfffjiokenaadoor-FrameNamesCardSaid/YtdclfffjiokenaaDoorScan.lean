/- frame.Scan: a range over the iterator. -/
import Derived.Test.YtdclfffjiokenaaDoorScanL
import Derived.RegionIn
namespace Go.Proofs.YtdclfffjiokenaaDoor
open Go.RowKit
set_option linter.unusedVariables false

theorem frames_any (s : ByteArray) (a : Int) (w : World) :
    Calls Tryd.prog 34 #[.string s, .int .i64 a] w fun e w' => e = .returned (.func (.func 45) #[] #[.pointer (some ⟨w.heap.size, 0, none⟩), .pointer (some ⟨w.heap.size + 1, 0, none⟩)]) ∧ w' = (w.alloc (.cells #[.string s] 9)).alloc (.cells #[.int .i64 a] 3) := by
  go_enter Tryd.func34, Tryd.ntmps34
  go_wp2
  go_ret
  exact ⟨rfl, rfl⟩
theorem heap4 (w : World) (o0 o1 o2 o3 : Obj) : ((((w.alloc o0).alloc o1).alloc o2).alloc o3).heap[w.heap.size]? = some o0 ∧ ((((w.alloc o0).alloc o1).alloc o2).alloc o3).heap[w.heap.size + 1]? = some o1 ∧ ((((w.alloc o0).alloc o1).alloc o2).alloc o3).heap[w.heap.size + 2]? = some o2 ∧ ((((w.alloc o0).alloc o1).alloc o2).alloc o3).heap[w.heap.size + 3]? = some o3 := by
  have e1 := heap_alloc_new w o0
  have e2 := heap_alloc_new (w.alloc o0) o1
  have e3 := heap_alloc_new ((w.alloc o0).alloc o1) o2
  have e4 := heap_alloc_new (((w.alloc o0).alloc o1).alloc o2) o3
  simp only [World.size_alloc] at e2 e3 e4
  refine ⟨?_, ?_, ?_, e4⟩
  · rw [Below.heap_alloc _ o3 _ (by simp <;> omega), Below.heap_alloc _ o2 _ (by simp <;> omega), Below.heap_alloc _ o1 _ (by simp)]; exact e1
  · rw [Below.heap_alloc _ o3 _ (by simp <;> omega), Below.heap_alloc _ o2 _ (by simp)]; exact e2
  · rw [Below.heap_alloc _ o3 _ (by simp)]; exact e3
/-- Between two rounds of Scan's loop. -/
structure ScanJ (w : World) (p0 : Nat) (L : Loop) (pre : List FrV) (W : World) (v : Value) : Prop where
  out : W.heap[w.heap.size]? = some (.cells #[v] 33 (0, 0))
  row : RK 3 W v pre.length (pre.flatMap FrV.cells)
  new : ∀ k, blk v = some k → w.heap.size + 5 < k
  good : W.heap[w.heap.size + 1]? = some (.cells #[.int .i64 (good p0 pre : Nat)] 3 (0, 0))
  record : W.heap[w.heap.size + 5]? = some (.loop L)
  defers : W.heap[w.heap.size + 4]? = some (.deferred (some []))
  below : Below w.heap.size w W
theorem infoFrame : (Tryd.prog.info? 26).map (fun i => (i.zero, i.size, i.bytes)) = some (some (.agg #[.int .u8 0, .string ⟨#[]⟩, .int .i64 0]), 3, 32) := by kernel_rfl
theorem wpListIn_append_src {F : Fence} {fu : Nat} {P : Program} {w : World} {v u : Value} {z n m : Nat} {cs ks : List Value} {ops : Array Oper} {rest : List Oper} {o : Oper} {a : Act} {Q : Exit → Act → World → Prop} (hgd : o.guard = none) (s x : Operand) (T : TypeId) (ho : o.op = .call { callee := .builtin .append, args := #[s, x], argTypes := #[T, T] })
    (h : RK z w v n cs) (hu : Src z w u m ks) (E : TypeId) (i : TypeInfo) (zero : Value) (bytes : Nat) (hT : P.underlying T = some (.slice E)) (hi : P.info? E = some i) (hz : i.zero = some zero) (hsz : i.size = z) (hby : i.bytes = bytes) (hzs : zero.cells.size = z) (hz0 : 0 < z)
    (hs : a.eval s = v) (hx : a.eval x = u) (h1 : ∀ u ∈ ks, u.oneCell' = true) (h63 : n + m ≤ maxLen) (hbytes : (n + m) * bytes ≤ 140737488355328) (p : Nat) (ls : List Value) (hp : n + m = p) (hl : cs ++ ks = ls)
    (hK : ∀ ao cap w', RK z w' (.slice ao p cap) p ls → w.grownBy w' (blk v) → Fresh w v (.slice ao p cap) → wpListIn F fu P ops Q rest (a.put o.dst (.slice ao p cap)) w') : wpListIn F fu P ops Q (o :: rest) a w := by
  refine wpListIn_plain hgd fun K hK' => ?_
  obtain ⟨ao, cap, w', hr, k1, k2, k3⟩ := run_append_src h hu T o.type E i zero bytes hT hi hz hsz hby hzs hz0 h1 h63 hbytes p ls hp hl
  unfold Oper.wpIn
  refine ⟨?_, ?_⟩
  · simp [Oper.about, ho, resolve, Target.leads, Sem.run_pure]
  · rw [Oper.semAt_plain F _ _ (by rw [ho]; intro c hc'; cases hc')]
    simp [execOp, ho, resolve, invoke, builtin, hs, hx, hr, Result.andThen]
    exact hK' _ _ (hK ao cap w' k1 k2 k3)
theorem lt_of_heap {W : World} {k : Nat} {o : Obj} (h : W.heap[k]? = some o) : k < W.heap.size := (Array.getElem?_eq_some_iff.1 h).1
theorem ScanJ.later {w W W' : World} {p0 : Nat} {L : Loop} {pre : List FrV} {v : Value} (h : ScanJ w p0 L pre W v) (hb : Below W.heap.size W W') : ScanJ w p0 L pre W' v :=
  ⟨by rw [hb.block _ (lt_of_heap h.out)]; exact h.out, h.row.below hb, h.new, by rw [hb.block _ (lt_of_heap h.good)]; exact h.good, by rw [hb.block _ (lt_of_heap h.record)]; exact h.record,
    by rw [hb.block _ (lt_of_heap h.defers)]; exact h.defers, h.below.trans (hb.mono h.below.size)⟩
theorem ScanJ.set {w W : World} {p0 : Nat} {L : Loop} {pre : List FrV} {v : Value} (h : ScanJ w p0 L pre W v) (u : Value) : ScanJ w p0 L pre (W.setCell ⟨w.heap.size + 3, 0, none⟩ u) v :=
  ⟨(Below.heap_setCell W _ u _ (by simp)).trans h.out, h.row.set _ _ (fun k hk => by have := h.new k hk; simp; omega), h.new, (Below.heap_setCell W _ u _ (by simp)).trans h.good, (Below.heap_setCell W _ u _ (by simp)).trans h.record,
    (Below.heap_setCell W _ u _ (by simp)).trans h.defers, h.below.setCell (p := ⟨w.heap.size + 3, 0, none⟩) (by simp) u⟩
/-- A range over a function, on the wide fence, as far as the call of the function. -/
theorem range_enter {F : Fence} {P : Program} {n : Nat} {g : Operand} {ps : Array Tmp} {assign body : Code} {Q : Exit → Act → World → Prop} {a : Act} {W0 : World} {gf : Nat} {lb : Array Value} (hro : F.round = none) (hFg : F.fn gf) (hg : a.eval g = .func (.func gf) #[] lb) (eg : ∀ args w, (callFunc gf args).run P w = .ok (.enter gf args) w)
    (h : ∀ (fn : FuncId) (L : Loop), L = { state := .ready, pending := none, fn, tmps := a.tmps, params := ps, assign, body, defers := W0.heap.size } →
      CallsIn F (n - 1) P gf (#[.func (.yield (W0.heap.size + 1)) #[] #[]] ++ lb) ((W0.alloc (.deferred (some []))).alloc (.loop L)) (rangePost F n P (W0.heap.size + 1) Q { a with defers := [{ target := .collected W0.heap.size, args := #[] }] ++ a.defers })) (h1 : 1 ≤ n) :
    (Code.rangeFunc g ps assign body).wpIn F n P Q a W0 := by
  refine wpIn_rangeFunc ?_
  intro fn hfn
  rw [hro]
  obtain ⟨L, hL⟩ : ∃ L : Loop, L = { state := .ready, pending := none, fn, tmps := a.tmps, params := ps, assign, body, defers := W0.heap.size } := ⟨_, rfl⟩
  have he := run_enterLoop_outer (P := P) (w := W0) fn a.tmps ps assign body
  rw [← hL] at he
  have hc := h fn L hL
  clear h
  obtain ⟨W1, hW1⟩ : ∃ W1, (W0.alloc (.deferred (some []))).alloc (.loop L) = W1 := ⟨_, rfl⟩
  rw [hW1] at he hc
  refine ⟨W0.heap.size + 1, ?_⟩
  refine ⟨[{ target := .collected W0.heap.size, args := #[] }], ?_⟩
  refine ⟨W1, ?_⟩
  refine ⟨{ target := .fn (.func gf) lb, args := #[.func (.yield (W0.heap.size + 1)) #[] #[]] }, ?_⟩
  refine ⟨W1, ?_⟩
  refine ⟨gf, ?_⟩
  refine ⟨#[.func (.yield (W0.heap.size + 1)) #[] #[]] ++ lb, ?_⟩
  refine ⟨W1, ?_⟩
  refine ⟨he, ?_⟩
  refine ⟨?_, ?_⟩
  · simp only [resolve, hg]
    simp [go_sem]
  refine ⟨?_, ?_⟩
  · intro f' hf'; simp [Target.leads] at hf'; subst hf'; exact hFg
  refine ⟨?_, ?_⟩
  · simp [invoke, go_sem, eg]
  exact ⟨fun _ => h1, hc⟩
theorem scan_core (s : ByteArray) (p0 : Nat) (w : World) (L : Loop) (hs : s.size ≤ 1000000000000) (hp : p0 ≤ s.size) (ht : Tab w) (hpr : L.params.size = 2)
    (hround : ∀ (pre : List FrV) (x : FrV) (W : World) (v : Value), 9 * pre.length ≤ s.size → ScanJ w p0 L pre W v → RoundIn Fence.wide 2 Tryd.prog (w.heap.size + 5) L.fn ((L.params.zip #[x.v, .int .i64 (x.next : Nat)]).foldl (fun t (q, u) => t.setIfInBounds q u) L.tmps) L.assign L.body W
      fun e W' => e = .returned (.bool true) ∧ (∃ v', ScanJ w p0 L (pre ++ [x]) W' v') ∧ W'.heap[w.heap.size + 2]? = W.heap[w.heap.size + 2]? ∧ W'.heap[w.heap.size + 3]? = W.heap[w.heap.size + 3]? ∧ W.heap.size ≤ W'.heap.size)
    (W : World) (hBs : W.heap[w.heap.size + 2]? = some (.cells #[.string s] 9 (0, 0))) (hBa : W.heap[w.heap.size + 3]? = some (.cells #[.int .i64 p0] 3 (0, 0))) (h0 : ScanJ w p0 L [] W (.slice none 0 0)) :
    CallsIn Fence.wide 3 Tryd.prog 45 #[.func (.yield (w.heap.size + 5)) #[] #[], .pointer (some ⟨w.heap.size + 2, 0, none⟩), .pointer (some ⟨w.heap.size + 3, 0, none⟩)] W fun e W' => (∃ v, e = .returned v) ∧ ∃ v, ScanJ w p0 L (scanL s.data.toList p0).1 W' v :=
  frames_in (w.heap.size + 5) (w.heap.size + 2) (w.heap.size + 3) s p0 (by omega) (fun pre W => ∃ v, ScanJ w p0 L pre W v)
    (fun pre W W' ⟨v, h⟩ hb => ⟨v, h.later hb⟩) (fun pre W u ⟨v, h⟩ => ⟨v, h.set u⟩) (fun pre W ⟨v, h⟩ => ht.below h.below)
    (fun pre x W hl ⟨v, h⟩ => ⟨_, _, _, _, run_yield h.record (by rw [hpr]; rfl), hround pre x W v hl h⟩) W hp (by omega) hBs hBa ⟨_, h0⟩
attribute [local go_sem] Oper.semAt_some
set_option maxRecDepth 100000 in
set_option maxHeartbeats 2000000 in
theorem Scan_in (s : ByteArray) (p0 : Nat) (w : World) (hs : s.size ≤ 1000000000000) (hp : p0 ≤ s.size) (ht : Tab w) :
    Calls Tryd.prog 15 #[.string s, .int .i64 p0] w fun e w' => ∃ v, e = .returned (.tuple #[v, .int .i64 (scanL s.data.toList p0).2]) ∧ RK 3 w' v (scanL s.data.toList p0).1.length ((scanL s.data.toList p0).1.flatMap FrV.cells) ∧ (∀ k, blk v = some k → w.heap.size ≤ k) ∧ Below w.heap.size w w' := by
  refine (callsIn_wide (n := 4)).1 ?_
  refine callsIn_of_wp_marks Tryd.func15 rfl trivial ?_ rfl
  simp only [Tryd.ntmps15, List.size_toArray, List.length_cons, List.length_nil, Nat.reduceAdd, Nat.reduceSub, Array.replicate_succ, Array.replicate_zero, List.push_toArray, List.append_toArray, List.nil_append, List.cons_append]
  have t1 : decide ((p0 : Int) < 0) = false := by rw [decide_eq_false_iff_not]; omega
  have t2 : decide ((s.size : Int) < (p0 : Int)) = false := by rw [decide_eq_false_iff_not]; omega
  have t3 : decide (s.size < p0) = false := by rw [decide_eq_false_iff_not]; omega
  gi_wp2
  refine ⟨trivial, ?_⟩
  refine (callsIn_wide.2 (frames_any s p0 _)).mono ?_
  rintro e w1 ⟨rfl, rfl⟩
  gi_wp2
  obtain ⟨W0, hW0⟩ : ∃ W0, ((((w.alloc (.cells #[.slice none 0 0] 33)).alloc (.cells #[.int .i64 (p0 : Nat)] 3)).alloc (.cells #[.string s] 9)).alloc (.cells #[.int .i64 (p0 : Nat)] 3)) = W0 := ⟨_, rfl⟩
  have hB0 : Below w.heap.size w W0 := by rw [← hW0]; exact ((((Below.refl _ w).alloc (by simp) _).alloc (by simp) _).alloc (by simp <;> omega) _).alloc (by simp <;> omega) _
  have hz0 : W0.heap.size = w.heap.size + 4 := by rw [← hW0]; simp
  have hh0 : W0.heap[w.heap.size]? = some (.cells #[.slice none 0 0] 33 (0, 0)) ∧ W0.heap[w.heap.size + 1]? = some (.cells #[.int .i64 (p0 : Nat)] 3 (0, 0)) ∧ W0.heap[w.heap.size + 2]? = some (.cells #[.string s] 9 (0, 0)) ∧ W0.heap[w.heap.size + 3]? = some (.cells #[.int .i64 (p0 : Nat)] 3 (0, 0)) := by
    rw [← hW0]
    exact heap4 _ _ _ _ _
  rw [hW0]
  refine range_enter (F := Fence.wide) (gf := 45) (lb := #[.pointer (some ⟨w.heap.size + 2, 0, none⟩), .pointer (some ⟨w.heap.size + 3, 0, none⟩)]) rfl trivial rfl (enters_of Tryd.func45 (by kernel_rfl) rfl) ?_ (by decide)
  intro fn L hL
  rw [show W0.heap.size + 1 = w.heap.size + 5 from by omega, hz0]
  have hz1 : (W0.alloc (.deferred (some []))).heap.size = w.heap.size + 5 := by rw [World.size_alloc]; omega
  have hz2 : ((W0.alloc (.deferred (some []))).alloc (.loop L)).heap.size = w.heap.size + 6 := by rw [World.size_alloc, hz1]
  have hb2 : Below W0.heap.size W0 ((W0.alloc (.deferred (some []))).alloc (.loop L)) := ((Below.refl _ _).alloc (Nat.le_refl _) _).alloc (by simp) _
  have hD := heap_alloc_new W0 (.deferred (some []))
  have hLo := heap_alloc_new (W0.alloc (.deferred (some []))) (.loop L)
  rw [hz0] at hD
  rw [hz1] at hLo
  have hD2 : ((W0.alloc (.deferred (some []))).alloc (.loop L)).heap[w.heap.size + 4]? = some (.deferred (some [])) := by rw [Below.heap_alloc _ _ _ (by omega)]; exact hD
  refine (scan_core s p0 w L hs hp ht (by rw [hL]; rfl) ?round _ ?hbs ?hba ?h0).mono ?_
  case hbs => rw [hb2.block _ (by omega)]; exact hh0.2.2.1
  case hba => rw [hb2.block _ (by omega)]; exact hh0.2.2.2
  case h0 => exact ⟨by rw [hb2.block _ (by omega)]; exact hh0.1, RK.nil _ _, fun k hk => by simp [blk] at hk, by rw [hb2.block _ (by omega)]; exact hh0.2.1, hLo, hD2, hB0.trans (hb2.mono (by omega))⟩
  case round =>
    intro pre x W v hl hj
    have HJ := Kp.mk hj
    have HLq := Kp.mk hL
    obtain ⟨R, hR⟩ : ∃ R : Ending → World → Prop, R = fun e W' => e = .returned (.bool true) ∧ (∃ v', ScanJ w p0 L (pre ++ [x]) W' v') ∧ W'.heap[w.heap.size + 2]? = W.heap[w.heap.size + 2]? ∧ W'.heap[w.heap.size + 3]? = W.heap[w.heap.size + 3]? ∧ W.heap.size ≤ W'.heap.size := ⟨_, rfl⟩
    rw [← hR]
    have HR := Kp.mk hR
    obtain ⟨k, y, a⟩ := x
    obtain ⟨N, hN⟩ : ∃ N, (⟨k, y, a⟩ : FrV).next = N := ⟨_, rfl⟩
    rw [hN]
    unfold FrV.v
    rw [hL]
    have hzW := hj.below.size
    have hsz5 := lt_of_heap hj.record
    clear hR hj hL hLo hD2 hD hb2 hh0 hW0 hz2 hz1
    refine roundIn_of_wpIn trivial ?_
    simp only []
    gi_wp2
    obtain ⟨Wf, hWf⟩ : ∃ Wf, W.alloc (.cells #[.int .u8 k, .string (B y), .int .i64 a] 26) = Wf := ⟨_, rfl⟩
    have hbf : Below W.heap.size W Wf := by rw [← hWf]; exact (Below.refl _ _).alloc (Nat.le_refl _) _
    have hff : Wf.heap[W.heap.size]? = some (.cells #[.int .u8 k, .string (B y), .int .i64 a] 26 (0, 0)) := by rw [← hWf]; exact heap_alloc_new _ _
    have hzf : Wf.heap.size = W.heap.size + 1 := by rw [← hWf]; simp
    rw [hWf]
    have hj1 := HJ.out.later hbf
    refine ⟨_, run_beginRound hj1.record (by rw [HLq.out]), ?_⟩
    obtain ⟨W2, hW2⟩ : ∃ W2, Wf.putObj (w.heap.size + 5) (.loop { L with state := .busy }) = W2 := ⟨_, rfl⟩
    have hk2 : ∀ q, q ≠ w.heap.size + 5 → W2.heap[q]? = Wf.heap[q]? := fun q hq => by rw [← hW2]; exact World.putObj_heap_other hq
    have hz2 : W2.heap.size = W.heap.size + 1 := by rw [← hW2, World.putObj_size, hzf]
    have hrec2 := Kp.mk (show W2.heap[w.heap.size + 5]? = some (.loop { L with state := .busy }) from by rw [← hW2]; exact World.putObj_heap_same (by omega))
    have hrow2 := Kp.mk (hj1.row.same (w' := W2) (by omega) (fun q hq => hk2 q (by have := hj1.new q hq; omega)))
    have hb2 := Kp.mk (show Below w.heap.size w W2 from by rw [← hW2]; exact hj1.below.trans ((Below.refl _ _).grown (grownBy_putObj' _ _ _) (by omega) (fun q e => by cases e; omega)))
    have o2 := Kp.mk ((hk2 w.heap.size (by omega)).trans hj1.out)
    have g2 := Kp.mk ((hk2 (w.heap.size + 1) (by omega)).trans hj1.good)
    have d2 := Kp.mk ((hk2 (w.heap.size + 4) (by omega)).trans hj1.defers)
    have f2 := (hk2 W.heap.size (by omega)).trans hff
    have s2 := Kp.mk ((hk2 (w.heap.size + 2) (by omega)).trans (hbf.block _ (by omega)))
    have s3 := Kp.mk ((hk2 (w.heap.size + 3) (by omega)).trans (hbf.block _ (by omega)))
    have HN := Kp.mk hj1.new
    rw [hW2]
    clear hW2 hk2 hj1 hff hzf hbf hWf
    obtain ⟨⟨x0, x1, x2⟩, x3⟩ := cells3 f2
    have c0 : W2.cell? ⟨w.heap.size, 0, none⟩ = some v := by simp [World.cell?, o2.out]
    obtain ⟨i0, hi0, hi1, hi2, hi3⟩ := info_parts infoFrame
    have HI := Kp.mk (And.intro hi0 (And.intro hi1 (And.intro hi2 hi3)))
    clear hi0 hi1 hi2 hi3
    clear f2
    have HIN := Kp.mk (show Src 3 (W2.alloc (.cells #[.int .u8 k, .string (B y), .int .i64 a] 26)) (.slice (some ⟨W2.heap.size, 0, none⟩) 1 1) 1 [.int .u8 k, .string (B y), .int .i64 a] from src_one (heap_alloc_new _ _) rfl)
    have HRW := Kp.mk (hrow2.out.alloc (.cells #[.int .u8 k, .string (B y), .int .i64 a] 26))
    have HML := Kp.mk (show pre.length + 1 ≤ maxLen from by unfold maxLen; omega)
    have hlw := hb2.out.size
    have HZ2 := Kp.mk hz2
    have hw5 : w.heap.size + 5 < W2.heap.size := by omega
    clear hz2 hsz5
    gi_wp2_with (gi_at_builtin; go_loud (refine wpListIn_append_src rfl _ _ 33 rfl HRW.out HIN.out 26 i0 _ 32 Tryd.underlying33 HI.out.1 HI.out.2.1 HI.out.2.2.1 HI.out.2.2.2 rfl (by decide) rfl rfl (by simp [Value.oneCell']) HML.out (by have := HML.out; omega) _ _ rfl rfl ?_; intro ao cap w3 k1 k2 k3; have K1 := Kp.mk k1; have K2 := Kp.mk k2; have K3 := Kp.mk k3; have q0 : w3.heap[w.heap.size]? = some (.cells #[v] 33 (0, 0)) := (by rw [k2.block _ (by simp; omega) (fun e => by have := HN.out _ e.symm; omega), Below.heap_alloc _ _ _ (by omega)]; exact o2.out); have q1 : w3.heap[w.heap.size + 1]? = some (.cells #[.int .i64 (good p0 pre : Nat)] 3 (0, 0)) := (by rw [k2.block _ (by simp; omega) (fun e => by have := HN.out _ e.symm; omega), Below.heap_alloc _ _ _ (by omega)]; exact g2.out); have Q0 := Kp.mk q0; have Q1 := Kp.mk q1; have r0 : w3.cell? ⟨w.heap.size, 0, none⟩ = some v := (by simp [World.cell?, q0]); have r1 : w3.cell? ⟨w.heap.size + 1, 0, none⟩ = some (.int .i64 (good p0 pre : Nat)) := (by simp [World.cell?, q1]); have r2 : w3.frozen? ⟨w.heap.size, 0, none⟩ = false := (by simp [World.frozen?, q0]); have r3 : w3.frozen? ⟨w.heap.size + 1, 0, none⟩ = false := (by simp [World.frozen?, q1]); clear k1 k2 k3 q0 q1))
    clear r0 r1 r2 r3 c0 x0 x1 x2 x3
    have hz2 := HZ2.out
    have hbd : ∀ q, blk v = some q → w.heap.size + 5 < q := HN.out
    have hold : ∀ q, q ≤ w.heap.size + 5 → w3.heap[q]? = W2.heap[q]? := fun q hq => by
      rw [K2.out.block _ (by simp; omega) (fun e => by have := hbd _ e.symm; omega), Below.heap_alloc _ _ _ (by omega)]
    have hvb : ∀ q, blk (.slice ao (pre.length + 1) cap) = some q → w.heap.size + 5 < q := fun q hq => by
      rcases K3.out q hq with h | h
      · exact hbd q h
      · simp at h; omega
    obtain ⟨V, hV⟩ : ∃ V, Value.slice ao (pre.length + 1) cap = V := ⟨_, rfl⟩
    have K1' := Kp.mk K1.out
    rw [hV] at hvb ⊢
    have HK1 : Kp (RK 3 w3 V (pre.length + 1) (pre.flatMap FrV.cells ++ [.int .u8 k, .string (B y), .int .i64 a])) := ⟨by rw [← hV]; exact K1.out⟩
    have h3 : Below w.heap.size w w3 := (hb2.out.alloc hlw _).grown K2.out (by simp; omega) (fun q e => by have := hbd q e; omega)
    have hz3 : W2.heap.size < w3.heap.size := by have := K2.out.size; simp at this; omega
    obtain ⟨W5, hW5⟩ : ∃ W5, (w3.setCell ⟨w.heap.size, 0, none⟩ V).setCell ⟨w.heap.size + 1, 0, none⟩ (.int .i64 (N : Nat)) = W5 := ⟨_, rfl⟩
    have hk5 : ∀ q, q ≠ w.heap.size → q ≠ w.heap.size + 1 → W5.heap[q]? = w3.heap[q]? := fun q h0 h1 => by
      rw [← hW5]; exact (Below.heap_setCell _ _ _ q h1).trans (Below.heap_setCell _ _ _ q h0)
    have ho5 : W5.heap[w.heap.size]? = some (.cells #[V] 33 (0, 0)) := by
      rw [← hW5]; exact (Below.heap_setCell _ _ _ _ (by simp)).trans (one_set Q0.out V)
    have hg5 : W5.heap[w.heap.size + 1]? = some (.cells #[.int .i64 (N : Nat)] 3 (0, 0)) := by
      rw [← hW5]; exact one_set ((Below.heap_setCell _ _ _ _ (by simp)).trans Q1.out) _
    have hb5 : Below w.heap.size w W5 := by
      rw [← hW5]; exact (h3.setCell (p := ⟨w.heap.size, 0, none⟩) (Nat.le_refl _) _).setCell (p := ⟨w.heap.size + 1, 0, none⟩) (by simp) _
    have hz5 : W5.heap.size = w3.heap.size := by rw [← hW5]; simp
    have hr5 : W5.heap[w.heap.size + 5]? = some (.loop { L with state := .busy }) := by rw [hk5 _ (by omega) (by omega), hold _ (by omega)]; exact hrec2.out
    rw [hW5]
    refine ⟨_, _, run_endRound none hr5, ?_⟩
    have hLL : ({ { L with state := LoopState.busy } with state := if (none : Option Code).isNone then .ready else .done, pending := none } : Loop) = L := by rw [HLq.out]; rfl
    rw [hLL]
    have hk6 : ∀ q, q ≠ w.heap.size + 5 → (W5.putObj (w.heap.size + 5) (.loop L)).heap[q]? = W5.heap[q]? := fun q hq => World.putObj_heap_other hq
    rw [HR.out]
    refine ⟨rfl, ⟨V, (hk6 _ (by omega)).trans ho5, ?_, hvb, (hk6 _ (by omega)).trans (by rw [good_snoc, hN]; exact hg5), World.putObj_heap_same (by omega), (hk6 _ (by omega)).trans (by rw [hk5 _ (by omega) (by omega), hold _ (by omega)]; exact d2.out), ?_⟩, ?_, ?_, ?_⟩
    · have := HK1.out.same (w' := W5.putObj (w.heap.size + 5) (.loop L)) (by rw [World.putObj_size]; omega) (fun q hq => by have := hvb q hq; rw [hk6 _ (by omega), hk5 _ (by omega) (by omega)])
      simpa [FrV.cells] using this
    · exact hb5.trans ((Below.refl _ _).grown (grownBy_putObj' _ _ _) (by omega) (fun q e => by cases e; omega))
    · rw [hk6 _ (by omega), hk5 _ (by omega) (by omega), hold _ (by omega)]; exact s2.out
    · rw [hk6 _ (by omega), hk5 _ (by omega) (by omega), hold _ (by omega)]; exact s3.out
    · rw [World.putObj_size]; omega
  rintro e W4 ⟨⟨v0, rfl⟩, v, hj⟩
  obtain ⟨ao, cap, rfl, _, _⟩ := hj.row.len
  have he := run_endLoop (P := Tryd.prog) hj.record (by rw [hL]; simp)
  have hk7 : ∀ q, q ≠ w.heap.size + 5 → (W4.putObj (w.heap.size + 5) (.loop { L with state := .exhausted })).heap[q]? = W4.heap[q]? := fun q hq => World.putObj_heap_other hq
  have hz4 := lt_of_heap hj.record
  have hb7 : Below w.heap.size w (W4.putObj (w.heap.size + 5) (.loop { L with state := .exhausted })) := hj.below.trans ((Below.refl _ _).grown (grownBy_putObj' _ _ _) hj.below.size (fun q e => by cases e; omega))
  have hz7 : (W4.putObj (w.heap.size + 5) (.loop { L with state := .exhausted })).heap.size = W4.heap.size := World.putObj_size
  obtain ⟨W7, hW7⟩ : ∃ W7, W4.putObj (w.heap.size + 5) (.loop { L with state := .exhausted }) = W7 := ⟨_, rfl⟩
  rw [hW7] at hk7 hb7 hz7 he
  rw [show L.pending = none from by rw [hL]] at he
  refine ⟨none, W7, he, ?_⟩
  clear he
  have o7 := (hk7 _ (by omega)).trans hj.out
  have g7 := (hk7 _ (by omega)).trans hj.good
  have d7 := (hk7 _ (by omega)).trans hj.defers
  have row7 := Kp.mk (hj.row.same (w' := W7) (by omega) (fun q hq => hk7 q (by have := hj.new q hq; omega)))
  have HN := Kp.mk hj.new
  have HG := Kp.mk (scanL_good s.data.toList p0)
  have c0 : W7.cell? ⟨w.heap.size, 0, none⟩ = some (.slice ao (scanL s.data.toList p0).1.length cap) := by simp [World.cell?, o7]
  have c1 : W7.cell? ⟨w.heap.size + 1, 0, none⟩ = some (.int .i64 (good p0 (scanL s.data.toList p0).1 : Nat)) := by simp [World.cell?, g7]
  have e0 : W7.frozen? ⟨w.heap.size, 0, none⟩ = false := by simp [World.frozen?, o7]
  have e1 : W7.frozen? ⟨w.heap.size + 1, 0, none⟩ = false := by simp [World.frozen?, g7]
  have O7 := Kp.mk o7
  have G7 := Kp.mk g7
  have D7 := Kp.mk d7
  have B7 := Kp.mk hb7
  have HZ7 := Kp.mk hz7
  have HZ4 := Kp.mk hz4
  clear o7 g7 d7 hb7 hk7 hW7 hj hL hLo hD2 hD hb2 hh0 hW0 hz2 hz1 hz7 hz4
  simp only [List.cons_append, List.nil_append]
  gi_wp2
  gi_region
  gi_wp2
  obtain ⟨M, hM⟩ : ∃ M, (scanL s.data.toList p0).1.length = M := ⟨_, rfl⟩
  rw [hM] at row7 HN O7 ⊢
  obtain ⟨W8, hW8⟩ : ∃ W8, ((W7.setCell ⟨w.heap.size, 0, none⟩ (.slice ao M cap)).setCell ⟨w.heap.size + 1, 0, none⟩ (.int .i64 (good p0 (scanL s.data.toList p0).1 : Nat))).drew = W8 := ⟨_, rfl⟩
  have hk8 : ∀ q, q ≠ w.heap.size → q ≠ w.heap.size + 1 → W8.heap[q]? = W7.heap[q]? := fun q h0 h1 => by
    rw [← hW8]; exact (Below.heap_setCell _ _ _ q h1).trans (Below.heap_setCell _ _ _ q h0)
  have o8 : W8.heap[w.heap.size]? = some (.cells #[.slice ao M cap] 33 (0, 0)) := by
    rw [← hW8]; exact (Below.heap_setCell _ _ _ _ (by simp)).trans (one_set O7.out _)
  have g8 : W8.heap[w.heap.size + 1]? = some (.cells #[.int .i64 (good p0 (scanL s.data.toList p0).1 : Nat)] 3 (0, 0)) := by
    rw [← hW8]; exact one_set ((Below.heap_setCell _ _ _ _ (by simp)).trans G7.out) _
  have b8 : Below w.heap.size w W8 := by
    rw [← hW8]; exact ((B7.out.setCell (p := ⟨w.heap.size, 0, none⟩) (Nat.le_refl _) _).setCell (p := ⟨w.heap.size + 1, 0, none⟩) (by simp) _).drew
  have z8 : W8.heap.size = W7.heap.size := by
    rw [← hW8]; show ((W7.setCell _ _).setCell _ _).heap.size = _; simp
  have d8 : W8.heap[w.heap.size + 4]? = some (.deferred (some [])) := (hk8 _ (by omega) (by omega)).trans D7.out
  rw [hW8]
  have hz7 := HZ7.out
  have hz4 := HZ4.out
  refine ⟨by simp, .inl ⟨_, _, rfl, run_takeDeferred d8, ?_⟩⟩
  have hk9 : ∀ q, q ≠ w.heap.size + 4 → (W8.putObj (w.heap.size + 4) (.deferred none)).heap[q]? = W8.heap[q]? := fun q hq => World.putObj_heap_other hq
  have c8 : (W8.putObj (w.heap.size + 4) (.deferred none)).cell? ⟨w.heap.size, 0, none⟩ = some (.slice ao M cap) := by
    rw [World.cell?_of_block (a := ⟨w.heap.size, 0, none⟩) (hk9 w.heap.size (by omega))]; simp [World.cell?, o8]
  have c9 : (W8.putObj (w.heap.size + 4) (.deferred none)).cell? ⟨w.heap.size + 1, 0, none⟩ = some (.int .i64 (good p0 (scanL s.data.toList p0).1 : Nat)) := by
    rw [World.cell?_of_block (a := ⟨w.heap.size + 1, 0, none⟩) (hk9 (w.heap.size + 1) (by omega))]; simp [World.cell?, g8]
  refine ⟨.tuple #[.slice ao M cap, .int .i64 (good p0 (scanL s.data.toList p0).1 : Nat)], by simp [results, Tryd.results15, go_sem, c8, c9], ?_⟩
  refine ⟨.slice ao M cap, by rw [HG.out], ?_, fun q hq => by have := HN.out q hq; omega, ?_⟩
  · exact row7.out.same (by rw [World.putObj_size]; omega) (fun q hq => by have := HN.out q hq; rw [hk9 q (by omega), hk8 q (by omega) (by omega)])
  · exact b8.trans ((Below.refl _ _).grown (grownBy_putObj' _ _ _) (by omega) (fun q e => by cases e; omega))
def scanV (s : ByteArray) (a : Int) : List FrV × Nat := if a < 0 ∨ (s.size : Int) < a then ([], 0) else scanL s.data.toList a.toNat
theorem Scan_out (s : ByteArray) (a : Int) (w : World) (hs : s.size ≤ 1000000000000) (h1 : -9223372036854775808 ≤ a) (h2 : a ≤ 9223372036854775807) (h0 : a < 0 ∨ (s.size : Int) < a) :
    Calls Tryd.prog 15 #[.string s, .int .i64 a] w fun e w' => e = .returned (.tuple #[.slice none 0 0, .int .i64 0]) ∧ Below w.heap.size w w' := by
  by_cases h00 : a < 0
  · have t1 : decide (a < 0) = true := by rw [decide_eq_true_eq]; exact h00
    go_enter Tryd.func15, Tryd.ntmps15
    go_wp2
    refine bodyPost_ret (v := .tuple #[.slice none 0 0, .int .i64 0]) (by simp [results, Tryd.results15, go_sem]) rfl ?_
    exact ⟨rfl, ((Below.refl _ w).alloc (Nat.le_refl _) _).alloc (by simp) _⟩
  · have t1 : decide (a < 0) = false := by rw [decide_eq_false_iff_not]; exact h00
    have t2 : decide ((s.size : Int) < a) = true := by rw [decide_eq_true_eq]; omega
    go_enter Tryd.func15, Tryd.ntmps15
    go_wp2
    refine bodyPost_ret (v := .tuple #[.slice none 0 0, .int .i64 0]) (by simp [results, Tryd.results15, go_sem]) rfl ?_
    exact ⟨rfl, ((Below.refl _ w).alloc (Nat.le_refl _) _).alloc (by simp) _⟩
/-- frame.Scan: the frames, in a slice that is new. -/
theorem Scan_any (s : ByteArray) (a : Int) (w : World) (hs : s.size ≤ 1000000000000) (h1 : -9223372036854775808 ≤ a) (h2 : a ≤ 9223372036854775807) (ht : Tab w) :
    Calls Tryd.prog 15 #[.string s, .int .i64 a] w fun e w' => ∃ v, e = .returned (.tuple #[v, .int .i64 (scanV s a).2]) ∧ RK 3 w' v (scanV s a).1.length ((scanV s a).1.flatMap FrV.cells) ∧ (∀ k, blk v = some k → w.heap.size ≤ k) ∧ Below w.heap.size w w' := by
  unfold scanV
  by_cases h0 : a < 0 ∨ (s.size : Int) < a
  · rw [if_pos h0]
    refine (Scan_out s a w hs h1 h2 h0).mono ?_
    rintro e w' ⟨rfl, hb⟩
    exact ⟨_, rfl, RK.nil _ _, fun k hk => by simp [blk] at hk, hb⟩
  · rw [if_neg h0]
    have := Scan_in s a.toNat w hs (by omega) ht
    rwa [show ((a.toNat : Nat) : Int) = a from by omega] at this
end Go.Proofs.YtdclfffjiokenaaDoor
