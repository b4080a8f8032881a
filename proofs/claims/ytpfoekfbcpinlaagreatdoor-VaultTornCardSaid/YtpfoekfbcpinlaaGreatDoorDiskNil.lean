/- Copy; Same. -/
import Derived.Test.YtpfoekfbcpinlaaGreatDoorDiskEx
import Derived.Laws.StructEq
import Derived.ChangeKeysEq
namespace Go.Proofs.YtpfoekfbcpinlaaGreatDoor
open Go.RowKit
set_option linter.unusedVariables false

/-! ### Comparing -/
def eqF (d : Nat) (xs ys : Array Value) : List (TypeId × Nat) → Sem Bool
  | [] => pure true
  | f :: fs => do
    let a ← part f.1 xs f.2
    let b ← part f.1 ys f.2
    let r ← Op.equalIn d f.1 a b
    if (!r) = true then pure false else eqF d xs ys fs
theorem eqF_of (d : Nat) (xs ys : Array Value) : ∀ (fs : List Field) (ts : List (TypeId × Nat)), fs.map (fun f => (f.name == "_", f.type, f.offset)) = ts.map (fun t => (false, t.1, t.2)) → Op.eqFields d xs ys fs = eqF d xs ys ts
  | [], [], _ => rfl
  | [], _ :: _, h => by simp at h
  | _ :: _, [], h => by simp at h
  | f :: fs, t :: ts, h => by
    simp only [List.map_cons, List.cons.injEq, Prod.mk.injEq] at h
    obtain ⟨⟨h1, h2, h3⟩, h4⟩ := h
    have hn : f.name ≠ "_" := by simpa using h1
    rw [Op.eqFields, if_pos hn, eqF, eqF_of d xs ys fs ts h4, h2, h3]
theorem run_eqF_cons {P : Program} {w : World} (d : Nat) (xs ys : Array Value) (t : TypeId) (o : Nat) (ts : List (TypeId × Nat)) (a b : Value) (r r' : Bool) (ha : (part t xs o).run P w = .ok a w) (hb : (part t ys o).run P w = .ok b w) (hr : (Op.equalIn d t a b).run P w = .ok r w) (hr' : (eqF d xs ys ts).run P w = .ok r' w) :
    (eqF d xs ys ((t, o) :: ts)).run P w = .ok (r && r') w := by
  rw [eqF]
  simp only [Sem.run_bind, ha, hb, hr, Result.andThen_ok]
  cases r
  · simp
  · simpa using hr'
theorem run_eqF_nil {P : Program} {w : World} (d : Nat) (xs ys : Array Value) : (eqF d xs ys []).run P w = .ok true w := by rw [eqF]; rfl
theorem part_cell {P : Program} {w : World} {t : TypeId} {d : TypeDesc} (hu : P.underlying t = some d) (hd : (match d with | .struct _ | .array _ _ => false | _ => true) = true) {cs : Array Value} {o : Nat} {v : Value} (h : cs[o]? = some v) : (part t cs o).run P w = .ok v w := by
  unfold part isAgg
  rw [Sem.run_bind, Sem.run_bind, run_underlying hu w]
  cases d <;> simp_all
theorem part_agg {P : Program} {w : World} {t : TypeId} {d : TypeDesc} {i : TypeInfo} (hu : P.underlying t = some d) (hd : (match d with | .struct _ | .array _ _ => true | _ => false) = true) (hi : P.info? t = some i) (cs : Array Value) (o : Nat) : (part t cs o).run P w = .ok (.agg (cs.extract o (o + i.size))) w := by
  unfold part isAgg
  rw [Sem.run_bind, Sem.run_bind, run_underlying hu w]
  cases d <;> simp_all [sizeOf, typeInfo]
theorem tape_eq (d : Nat) (a b : ByteArray) (f g : Int) (w : World) :
    (Op.equalIn (d + 2) 87 (.agg #[.string a, .int .i64 f]) (.agg #[.string b, .int .i64 g])).run Tryz.prog w = .ok (a.toList == b.toList && (f == g && true)) w := by
  rw [run_equalIn_agg w (d + 1) 87 _ _ (by kernel_rfl) (by kernel_rfl), eqF_of _ _ _ _ [(9, 0), (3, 1)] (by kernel_rfl)]
  exact run_eqF_cons _ _ _ _ _ _ _ _ _ _ (part_cell Tryz.underlying9 rfl rfl) (part_cell Tryz.underlying9 rfl rfl) (run_equalIn_string w d _ a b Tryz.underlying9)
    (run_eqF_cons _ _ _ _ _ _ _ _ _ _ (part_cell Tryz.underlying3 rfl rfl) (part_cell Tryz.underlying3 rfl rfl) (run_equalIn_int w d _ _ _ f g Tryz.underlying3) (run_eqF_nil _ _ _))
/-- Are two tapes one? -/
def tapeB (x y : TapeV) : Bool := x.b.toList == y.b.toList && ((x.firm : Int) == (y.firm : Int) && true)
theorem tapes_items (d : Nat) {cs ds : Array Value} {D E : DiskV} (h : Lay D cs) (k : Lay E ds) (w : World) : ∀ is : List Nat, (∀ i ∈ is, i < 32) →
    (Op.eqItems (d + 2) 87 2 (cs.extract 0 64) (ds.extract 0 64) is).run Tryz.prog w = .ok (is.all fun i => tapeB (D.tp i) (E.tp i)) w
  | [], _ => rfl
  | i :: is, hi => by
    obtain ⟨i0, hi0, _, hs, _⟩ := info_parts infoTape
    have ex : ∀ {cs : Array Value} {D : DiskV}, Lay D cs → (cs.extract 0 64).extract (i * 2) (i * 2 + 2) = #[.string (D.tp i).b, .int .i64 (D.tp i).firm] := fun {cs D} h => by
      have ht : i < 32 := hi i (by simp)
      obtain ⟨h0, h1, _⟩ := h
      obtain ⟨a, b⟩ := h1 i ht
      apply Array.ext_getElem?
      intro j
      rw [Array.getElem?_extract, Array.getElem?_extract]
      match j with
      | 0 =>
        rw [if_pos (by simp [h0]; omega), if_pos (by simp [h0]; omega)]
        simpa using a
      | 1 =>
        rw [if_pos (by simp [h0]; omega), if_pos (by simp [h0]; omega)]
        simpa using b
      | j + 2 =>
        rw [if_neg (by simp [h0]; omega)]
        simp
    have pa := part_agg (w := w) Tryz.underlying87 rfl hi0 (cs.extract 0 64) (i * 2)
    have pb := part_agg (w := w) Tryz.underlying87 rfl hi0 (ds.extract 0 64) (i * 2)
    rw [hs, ex h] at pa
    rw [hs, ex k] at pb
    rw [Op.eqItems]
    simp only [Sem.run_bind, pa, pb, Result.andThen_ok, tape_eq]
    rw [List.all_cons]
    have ih := tapes_items d h k w is (fun j hj => hi j (by simp [hj]))
    unfold tapeB at ih ⊢
    cases ((D.tp i).b.toList == (E.tp i).b.toList && (((D.tp i).firm : Int) == ((E.tp i).firm : Int) && true))
    · simp
    · simpa using ih
/-- Are two disks one? -/
def diskB (D E : DiskV) : Bool := (List.range 32).all (fun i => tapeB (D.tp i) (E.tp i)) && (D.cap == E.cap && (D.counts == E.counts && (D.left == E.left && (D.down == E.down && true))))
theorem disk_eq {cs ds : Array Value} {D E : DiskV} (h : Lay D cs) (k : Lay E ds) (w : World) : (binOp .eql 90 (.agg cs) (.agg ds)).run Tryz.prog w = .ok (.bool (diskB D E)) w := by
  obtain ⟨i0, hi0⟩ : ∃ i, Tryz.prog.info? 88 = some i := by
    cases hq : Tryz.prog.info? 88 with
    | none => have := infoTapes; rw [hq] at this; cases this
    | some i => exact ⟨i, rfl⟩
  have hs : i0.size = 64 := by have := infoTapes; rw [hi0] at this; simpa using this
  obtain ⟨i1, hi1, _, _, _⟩ := info_parts infoTape
  have hco : Tryz.prog.cellsOf 87 = 2 := by kernel_rfl
  have pa := part_agg (w := w) Tryz.underlying88 rfl hi0 cs 0
  have pb := part_agg (w := w) Tryz.underlying88 rfl hi0 ds 0
  rw [hs] at pa pb
  have he : (Op.equalIn 9999 88 (.agg (cs.extract 0 64)) (.agg (ds.extract 0 64))).run Tryz.prog w = .ok ((List.range 32).all fun i => tapeB (D.tp i) (E.tp i)) w := by
    rw [run_equalIn_array w 9998 _ _ Tryz.underlying88 hi1, hco]
    exact tapes_items 9996 h k w _ (fun i hi => by simpa using hi)
  obtain ⟨h0, h1, h2, h3, h4, h5⟩ := h
  obtain ⟨k0, k1, k2, k3, k4, k5⟩ := k
  rw [run_eql_struct, run_equalIn_agg w 9999 90 _ _ (by kernel_rfl) (by kernel_rfl), eqF_of _ _ _ _ [(88, 0), (3, 64), (4, 65), (3, 66), (4, 67)] (by kernel_rfl),
    run_eqF_cons _ _ _ _ _ _ _ _ _ _ pa pb he (run_eqF_cons _ _ _ _ _ _ _ _ _ _ (part_cell Tryz.underlying3 rfl h2) (part_cell Tryz.underlying3 rfl k2) (run_equalIn_int w 9998 _ _ _ _ _ Tryz.underlying3)
      (run_eqF_cons _ _ _ _ _ _ _ _ _ _ (part_cell Tryz.underlying4 rfl h3) (part_cell Tryz.underlying4 rfl k3) (run_equalIn_bool' w 9998 _ _ _ Tryz.underlying4)
        (run_eqF_cons _ _ _ _ _ _ _ _ _ _ (part_cell Tryz.underlying3 rfl h4) (part_cell Tryz.underlying3 rfl k4) (run_equalIn_int w 9998 _ _ _ _ _ Tryz.underlying3)
          (run_eqF_cons _ _ _ _ _ _ _ _ _ _ (part_cell Tryz.underlying4 rfl h5) (part_cell Tryz.underlying4 rfl k5) (run_equalIn_bool' w 9998 _ _ _ Tryz.underlying4) (run_eqF_nil _ _ _)))))]
  rfl
/-- A load of a whole row, as a step of a region that only reads. -/
theorem quiet_load {P : Program} {o : Oper} {a : Act} {C : World → Prop} (ty : TypeId) (x : Operand) (ho : o.op = .load ty x) (b off : Nat) (hx : a.eval x = .pointer (some ⟨b, off, none⟩)) (cs : List Value) (d : TypeDesc) (hC : ∀ W, C W → W.rangeAt b off cs)
    (hu : P.underlying ty = some d) (hd : d.isRow = true) (hi : (P.info? ty).map (·.size) = some cs.length) : ∀ W, C W → o.quietAt P a C W (.agg cs.toArray) := fun W hW => by
  unfold Oper.quietAt Oper.quietUpon execOp
  simp only [ho, hx, Instr.loadAt, Instr.sureAddr, Sem.run_bind, Sem.run_pure, Result.andThen_ok, run_loadVar_mid W b off ty cs d (hC W hW) hu hd hi]
  exact ⟨trivial, trivial⟩
theorem quiet_eql {P : Program} {o : Oper} {a : Act} {C : World → Prop} (ty ty2 : TypeId) (x y : Operand) (ho : o.op = .binOp .eql ty x y ty2) (xs ys : Array Value) (hx : a.eval x = .agg xs) (hy : a.eval y = .agg ys) (b : Bool) (hg : P.eqGuardType P.depth ty = false)
    (he : ∀ W, (binOp .eql ty (.agg xs) (.agg ys)).run P W = .ok (.bool b) W) : ∀ W, C W → o.quietAt P a C W (.bool b) := fun W hW => by
  unfold Oper.quietAt Oper.quietUpon execOp
  simp only [ho, hx, hy, Sem.run_bind, Sem.run_pure, Result.andThen_ok, run_eqGuard_agg W .eql ty x y xs ys hg, he W]
  exact ⟨trivial, trivial⟩
theorem tapeB_refl (x : TapeV) : tapeB x x = true := by unfold tapeB; simp
theorem diskB_refl (D : DiskV) : diskB D D = true := by
  unfold diskB
  simp [tapeB_refl]
theorem infoDisk : (Tryz.prog.info? 90).map (·.size) = some 68 := by kernel_rfl
set_option maxRecDepth 20000 in
theorem dSame_any (g k : Nat) (D E : DiskV) (w : World) (h : DiskAt w g D) (h2 : DiskAt w k E) :
    Calls Tryz.prog 32 #[.pointer (some ⟨g, 0, none⟩), .pointer (some ⟨k, 0, none⟩)] w fun e w' => e = .returned (.bool (diskB D E)) ∧ Below w.heap.size w w' := by
  obtain ⟨cs, hcs, hlay⟩ := h
  obtain ⟨ds, hds, hlay2⟩ := h2
  have HE := Kp.mk (fun wx => disk_eq hlay hlay2 wx)
  have hcz : cs.toList.length = 68 := by simpa using hlay.1
  have hdz : ds.toList.length = 68 := by simpa using hlay2.1
  have HR1 : Kp (w.rangeAt g 0 cs.toList) := ⟨by have := World.rangeAt_of_block hcs 0 68; rw [Nat.zero_add, ← hlay.1] at this; simpa using this⟩
  have HR2 : Kp (w.rangeAt k 0 ds.toList) := ⟨by have := World.rangeAt_of_block hds 0 68; rw [Nat.zero_add, ← hlay2.1] at this; simpa using this⟩
  obtain ⟨L, hL⟩ : ∃ L, cs.toList = L := ⟨_, rfl⟩
  obtain ⟨M, hM⟩ : ∃ M, ds.toList = M := ⟨_, rfl⟩
  have hc1 : cs = L.toArray := by rw [← hL]
  have hd1 : ds = M.toArray := by rw [← hM]
  rw [hc1, hd1] at HE
  rw [hL] at HR1 hcz
  rw [hM] at HR2 hdz
  have hi1 : (Tryz.prog.info? 90).map (·.size) = some L.length := by rw [infoDisk, hcz]
  have hi2 : (Tryz.prog.info? 90).map (·.size) = some M.length := by rw [infoDisk, hdz]
  have HI1 := Kp.mk hi1
  have HI2 := Kp.mk hi2
  have he := HE.out
  have hgd : Tryz.prog.eqGuardType Tryz.prog.depth 90 = false := by kernel_rfl
  clear hL hM hcs hds hlay hlay2 hc1 hd1 hcz hdz hi1 hi2
  go_enter Tryz.func32, Tryz.ntmps32
  go_wp2_with fail
  refine wp_region_quiet_lit (by kernel_rfl) (by kernel_rfl) ?_
  go_big_quiet_step (fail)
  go_big_quiet_step (fail)
  go_big_quiet_want
  rename_i K1 hK1
  refine ⟨_, quiet_load 90 (.tmp 18) rfl g 0 rfl L _ (fun W hW => by obtain ⟨n, rfl⟩ := hW; exact HR1.out) Tryz.underlying90 rfl HI1.out, hK1 _ ?_⟩
  simp only [Act.put, List.setIfInBounds_toArray, List.set_cons_zero, List.set_cons_succ]
  go_big_quiet_step (fail)
  go_big_quiet_step (fail)
  go_big_quiet_want
  rename_i K2 hK2
  refine ⟨_, quiet_load 90 (.tmp 21) rfl k 0 rfl M _ (fun W hW => by obtain ⟨n, rfl⟩ := hW; exact HR2.out) Tryz.underlying90 rfl HI2.out, hK2 _ ?_⟩
  simp only [Act.put, List.setIfInBounds_toArray, List.set_cons_zero, List.set_cons_succ]
  go_big_quiet_want
  rename_i K3 hK3
  refine ⟨_, quiet_eql 90 _ (.tmp 19) (.tmp 22) rfl L.toArray M.toArray rfl rfl _ hgd he, hK3 _ ?_⟩
  simp only [Act.put, List.setIfInBounds_toArray, List.set_cons_zero, List.set_cons_succ]
  clear he
  go_big_quiet_step (fail)
  refine wpQuiet_nil ?_
  intro _ hw'
  obtain ⟨nq, hw''⟩ := hw'
  subst hw''
  go_wp2
  go_ret
  exact ⟨rfl, ⟨rfl, rfl, rfl, Nat.le_refl _, fun _ _ => rfl⟩⟩
/-! ### Copy -/
theorem below_cells {B b : Nat} {a : World} (hb : B ≤ b) : ∀ (vs : List Value) (o : Nat) (w : World), Below B a w → Below B a (w.setCells b o vs)
  | [], _, _, h => h
  | v :: r, o, w, h => below_cells hb r (o + 1) _ (h.setCell (p := ⟨b, o, none⟩) hb v)
theorem heap_setCells (g : Nat) (T : TypeId) : ∀ (vs : List Value) (o : Nat) (w : World) (c0 : Array Value), w.heap[g]? = some (.cells c0 T (0, 0)) → ∃ c1, (w.setCells g o vs).heap[g]? = some (.cells c1 T (0, 0)) ∧ c1.size = c0.size
  | [], _, w, c0, h => ⟨c0, h, rfl⟩
  | v :: r, o, w, c0, h => by
    obtain ⟨c1, h1, h2⟩ := heap_setCells g T r (o + 1) (w.setCell ⟨g, o, none⟩ v) _ (heap_setCell_same w g o c0 T v h)
    exact ⟨c1, h1, by rw [h2]; simp⟩
theorem lay_one {D : DiskV} {cs : Array Value} (h : Lay D cs) : ∀ v ∈ cs.toList, v.oneCell' = true := by
  intro v hv
  obtain ⟨j, hj, rfl⟩ := List.mem_iff_getElem.1 hv
  obtain ⟨h0, h1, h2, h3, h4, h5⟩ := h
  have hj2 : j < 68 := by rw [← h0]; simpa using hj
  have key : ∀ (k : Nat) (x : Value), cs[k]? = some x → x.oneCell' = true → ∀ (e : j = k), (cs.toList[j]).oneCell' = true := fun k x hx h1 e => by
    subst e
    have : cs.toList[j]? = some x := by simpa using hx
    rw [List.getElem?_eq_getElem hj] at this
    rw [Option.some.inj this]
    exact h1
  by_cases hlt : j < 64
  · obtain ⟨a, b⟩ := h1 (j / 2) (by omega)
    by_cases he : j % 2 = 0
    · exact key _ _ a rfl (by omega)
    · exact key _ _ b rfl (by omega)
  · have : j = 64 ∨ j = 65 ∨ j = 66 ∨ j = 67 := by omega
    rcases this with e | e | e | e
    · exact key _ _ h2 rfl e
    · exact key _ _ h3 rfl e
    · exact key _ _ h4 rfl e
    · exact key _ _ h5 rfl e
theorem copied (w : World) {D : DiskV} {cs : Array Value} (h : Lay D cs) : DiskAt ((w.alloc (.cells zeroCells 90)).setCells w.heap.size 0 cs.toList) w.heap.size D := by
  obtain ⟨c1, h1, h2⟩ := heap_setCells w.heap.size 90 cs.toList 0 _ _ (heap_alloc_new w (.cells zeroCells 90))
  refine ⟨c1, h1, ?_⟩
  have hsz : c1.size = cs.size := by rw [h2, zero_size, h.1]
  have hc : c1 = cs := by
    apply Array.ext_getElem?
    intro j
    by_cases hj : j < cs.toList.length
    · have := World.cell?_setCells_in w.heap.size cs.toList 0 (w.alloc (.cells zeroCells 90)) (fun k hk => by
        rw [Nat.zero_add, cell_of_row _ _ _ _ _ _ (heap_alloc_new w _)]
        have : k < zeroCells.size := by rw [zero_size, ← h.1]; simpa using hk
        simp [this]) j hj
      rw [Nat.zero_add, cell_of_row _ _ _ _ _ _ h1] at this
      rw [this]
      simp at hj
      simp [hj]
    · have hj' : cs.size ≤ j := by simpa using hj
      rw [Array.getElem?_eq_none (by omega), Array.getElem?_eq_none hj']
  rw [hc]
  exact h
set_option maxRecDepth 20000 in
theorem Copy_any (g : Nat) (D : DiskV) (w : World) (h : DiskAt w g D) :
    Calls Tryz.prog 13 #[.pointer (some ⟨g, 0, none⟩)] w fun e w' => e = .returned (.pointer (some ⟨w.heap.size, 0, none⟩)) ∧ DiskAt w' w.heap.size D ∧ Below w.heap.size w w' := by
  obtain ⟨cs, hcs, hlay⟩ := h
  have hcz : cs.toList.length = 68 := by simpa using hlay.1
  have HR1 : Kp (w.rangeAt g 0 cs.toList) := ⟨by have := World.rangeAt_of_block hcs 0 68; rw [Nat.zero_add, ← hlay.1] at this; simpa using this⟩
  have HC := Kp.mk (copied w hlay)
  have HO : Kp (cs.all (·.oneCell') = true) := ⟨by have := all_oneCell_toArray (lay_one hlay); simpa using this⟩
  have HT : Kp ((w.alloc (.cells zeroCells 90)).there w.heap.size 0 68) := ⟨fun j hj => by
    rw [Nat.zero_add]
    exact ⟨by rw [cell_of_row _ _ _ _ _ _ (heap_alloc_new w _)]; have : j < zeroCells.size := hj; simp [this], frozen_of_row _ _ _ _ _ (heap_alloc_new w _)⟩⟩
  obtain ⟨L, hL⟩ : ∃ L, cs.toList = L := ⟨_, rfl⟩
  have hc1 : cs = L.toArray := by rw [← hL]
  rw [hL] at HR1 hcz HC
  rw [hc1] at HO
  have HI1 : Kp ((Tryz.prog.info? 90).map (·.size) = some L.length) := ⟨by rw [infoDisk, hcz]⟩
  have HSz : Kp (L.toArray.size = 68) := ⟨by simpa using hcz⟩
  have HI2 : Kp ((Tryz.prog.info? 90).map (·.size) = some L.toArray.size) := ⟨by rw [infoDisk, HSz.out]⟩
  have hz1 := zero_disk
  clear hL hcs hlay hc1 hcz
  go_enter Tryz.func13, Tryz.ntmps13
  go_wp2_with (first
    | (refine wpList_load_mid rfl 90 (.tmp 7) rfl g 0 rfl _ _ HR1.out Tryz.underlying90 rfl HI1.out ?_)
    | (refine wpList_store_mid rfl 90 (.tmp 3) (.tmp 8) rfl w.heap.size 0 L.toArray rfl rfl (by rw [HSz.out]; exact HT.out) HI2.out HO.out ?_))
  go_ret
  exact ⟨rfl, HC.out, below_cells (Nat.le_refl _) L 0 _ ((Below.refl _ _).alloc (Nat.le_refl _) _)⟩
end Go.Proofs.YtpfoekfbcpinlaaGreatDoor
/- Nobody's disk. -/
namespace Go.Proofs.YtpfoekfbcpinlaaGreatDoor
open Go.RowKit
set_option linter.unusedVariables false

set_option maxRecDepth 20000 in
theorem act_nil (t : Int) (F1 F2 F3 : Value) (w : World) : Calls Tryz.prog 52 #[.pointer none, .int .i64 t, F1, F2, F3] w fun e w' => e = .returned (.int .i64 2) ∧ w = w' := by
  go_enter Tryz.func52, Tryz.ntmps52
  go_wp2
  go_ret
  exact ⟨rfl, rfl⟩
set_option maxRecDepth 20000 in
theorem Sync_nil (t : Int) (w : World) : Calls Tryz.prog 16 #[.pointer none, .int .i64 t] w fun e w' => e = .returned (.int .i64 2) ∧ Below w.heap.size w w' := by
  go_enter Tryz.func16, Tryz.ntmps16
  go_wp2_with fail
  refine (act_nil _ _ _ _ _).mono ?_
  rintro e w' ⟨rfl, rfl⟩
  go_wp2
  go_ret
  exact ⟨rfl, Below.refl _ _⟩
set_option maxRecDepth 20000 in
theorem Wipe_nil (t : Int) (w : World) : Calls Tryz.prog 73 #[.pointer none, .int .i64 t] w fun e w' => e = .returned (.int .i64 2) ∧ Below w.heap.size w w' := by
  go_enter Tryz.func73, Tryz.ntmps73
  go_wp2_with fail
  refine (act_nil _ _ _ _ _).mono ?_
  rintro e w' ⟨rfl, rfl⟩
  go_wp2
  go_ret
  exact ⟨rfl, Below.refl _ _⟩
set_option maxRecDepth 20000 in
theorem Trim_nil (t n : Int) (w : World) : Calls Tryz.prog 119 #[.pointer none, .int .i64 t, .int .i64 n] w fun e w' => e = .returned (.int .i64 2) ∧ Below w.heap.size w w' := by
  go_enter Tryz.func119, Tryz.ntmps119
  go_wp2_with fail
  refine (act_nil _ _ _ _ _).mono ?_
  rintro e w' ⟨rfl, rfl⟩
  go_wp2
  go_ret
  exact ⟨rfl, (Below.refl _ _).alloc (Nat.le_refl _) _⟩
set_option maxRecDepth 20000 in
theorem Write_nil (t : Int) (s : ByteArray) (w : World) : Calls Tryz.prog 15 #[.pointer none, .int .i64 t, .string s] w fun e w' => e = .returned (.int .i64 2) ∧ Below w.heap.size w w' := by
  go_enter Tryz.func15, Tryz.ntmps15
  go_wp2_with fail
  refine (act_nil _ _ _ _ _).mono ?_
  rintro e w' ⟨rfl, rfl⟩
  go_wp2
  go_ret
  exact ⟨rfl, ((Below.refl _ _).alloc (Nat.le_refl _) _).alloc (by simp) _⟩
set_option maxRecDepth 20000 in
theorem Read_nil (t : Int) (w : World) : Calls Tryz.prog 97 #[.pointer none, .int .i64 t] w fun e w' => e = .returned (.tuple #[.string ⟨#[]⟩, .int .i64 2]) ∧ Below w.heap.size w w' := by
  go_enter Tryz.func97, Tryz.ntmps97
  go_wp2
  go_ret2
  exact ⟨rfl, Below.refl _ _⟩
set_option maxRecDepth 20000 in
theorem Fail_nil (t : Int) (w : World) : Calls Tryz.prog 81 #[.pointer none, .int .i64 t] w fun e w' => e = .returned (.int .i64 2) ∧ Below w.heap.size w w' := by
  go_enter Tryz.func81, Tryz.ntmps81
  go_wp2
  go_ret
  exact ⟨rfl, Below.refl _ _⟩
set_option maxRecDepth 20000 in
theorem Back_nil (w : World) : Calls Tryz.prog 38 #[.pointer none, .slice none 0 0] w fun e w' => e = .returned (.int .i64 2) ∧ Below w.heap.size w w' := by
  go_enter Tryz.func38, Tryz.ntmps38
  go_wp2
  go_ret
  exact ⟨rfl, Below.refl _ _⟩
set_option maxRecDepth 20000 in
theorem Up_nil (w : World) : Calls Tryz.prog 40 #[.pointer none] w fun e w' => e = .returned (.bool false) ∧ Below w.heap.size w w' := by
  go_enter Tryz.func40, Tryz.ntmps40
  go_wp2
  go_ret
  exact ⟨rfl, Below.refl _ _⟩
set_option maxRecDepth 20000 in
theorem Used_nil (w : World) : Calls Tryz.prog 35 #[.pointer none] w fun e w' => e = .returned (.int .i64 0) ∧ Below w.heap.size w w' := by
  go_enter Tryz.func35, Tryz.ntmps35
  go_wp2
  go_ret
  exact ⟨rfl, Below.refl _ _⟩
set_option maxRecDepth 20000 in
theorem Capacity_nil (w : World) : Calls Tryz.prog 36 #[.pointer none] w fun e w' => e = .returned (.int .i64 0) ∧ Below w.heap.size w w' := by
  go_enter Tryz.func36, Tryz.ntmps36
  go_wp2
  go_ret
  exact ⟨rfl, Below.refl _ _⟩
set_option maxRecDepth 20000 in
theorem Tapes_nil (w : World) : Calls Tryz.prog 19 #[.pointer none] w fun e w' => e = .returned (.slice none 0 0) ∧ Below w.heap.size w w' := by
  go_enter Tryz.func19, Tryz.ntmps19
  go_wp2
  go_ret
  exact ⟨rfl, Below.refl _ _⟩
set_option maxRecDepth 20000 in
theorem Copy_nil (w : World) : Calls Tryz.prog 13 #[.pointer none] w fun e w' => e = .returned (.pointer none) ∧ Below w.heap.size w w' := by
  go_enter Tryz.func13, Tryz.ntmps13
  go_wp2
  go_ret
  exact ⟨rfl, Below.refl _ _⟩
set_option maxRecDepth 20000 in
theorem Same_nil (w : World) : Calls Tryz.prog 32 #[.pointer none, .pointer none] w fun e w' => e = .returned (.bool true) ∧ Below w.heap.size w w' := by
  go_enter Tryz.func32, Tryz.ntmps32
  go_wp2
  go_ret
  exact ⟨rfl, Below.refl _ _⟩
set_option maxRecDepth 20000 in
theorem Same_nil1 (g : Nat) (w : World) : Calls Tryz.prog 32 #[.pointer none, .pointer (some ⟨g, 0, none⟩)] w fun e w' => e = .returned (.bool false) ∧ Below w.heap.size w w' := by
  go_enter Tryz.func32, Tryz.ntmps32
  go_wp2
  go_ret
  exact ⟨rfl, Below.refl _ _⟩
set_option maxRecDepth 20000 in
theorem Same_nil2 (g : Nat) (w : World) : Calls Tryz.prog 32 #[.pointer (some ⟨g, 0, none⟩), .pointer none] w fun e w' => e = .returned (.bool false) ∧ Below w.heap.size w w' := by
  go_enter Tryz.func32, Tryz.ntmps32
  go_wp2
  go_ret
  exact ⟨rfl, Below.refl _ _⟩
end Go.Proofs.YtpfoekfbcpinlaaGreatDoor
