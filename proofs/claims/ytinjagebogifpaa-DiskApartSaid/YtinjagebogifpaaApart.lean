/- What an act leaves of the other tapes: the plain law; a row of acts with one more behind it. -/
import Derived.Test.YtinjagebogifpaaDiskEx
import Derived.Test.YtinjagebogifpaaSrc
import Derived.SizedLaws
namespace Go.Proofs.Ytinjagebogifpaa
open Go.RowKit Go.ChangeShapes Go.WideShapes Go.Deep
set_option linter.unusedVariables false

theorem op_apart (D : DiskV) (t may : Int) (dov torn : TapeV → TapeV) (i : Nat) : (opV D t may dov torn).2.tp i = D.tp i ∨ (t = i ∧ ((opV D t may dov torn).1 = 0 ∨ ((opV D t may dov torn).1 = 45 ∧ torn (D.tp i) ≠ D.tp i))) := by
  unfold opV
  split
  · exact .inl rfl
  · split
    · exact .inl rfl
    · rename_i h1 h2
      split
      · exact .inl rfl
      · by_cases hi : i = t.toNat
        · subst hi
          split
          · by_cases hd : torn (D.tp t.toNat) = D.tp t.toNat
            · exact .inl (by simp only [setT_same]; exact hd)
            · exact .inr ⟨by omega, .inr ⟨rfl, hd⟩⟩
          · exact .inr ⟨by omega, .inl rfl⟩
        · split
          · exact .inl (by simp only []; rw [setT_other _ _ _ _ hi, fails_tp])
          · exact .inl (by simp only []; rw [setT_other _ _ _ _ hi, fails_tp])
theorem do_apart (D : DiskV) (a : ActV) (hw : a.what ≤ 4) (i : Nat) : told ((doV D a).2.tp i) = told (D.tp i) ∨ (a.t = i ∧ a.what ≠ 4 ∧ ((doV D a).1.2 = 0 ∨ ((doV D a).1.2 = 45 ∧ a.what = 0))) := by
  obtain ⟨qw, qt, qn, qs, ko, kl, kc, kf⟩ := a
  simp only [] at hw
  match qw, hw with
  | 0, _ =>
    rcases op_apart D qt (writeMay D (D.tp qt.toNat).b qs) (fun x => ⟨x.b ++ qs, x.firm⟩) (fun x => ⟨x.b ++ qs, x.firm⟩) i with h | ⟨h1, h2⟩
    · exact .inl (congrArg told h)
    · exact .inr ⟨h1, by simp, h2.imp id (fun h => ⟨h.1, rfl⟩)⟩
  | 1, _ =>
    rcases op_apart D qt 0 (fun x => ⟨x.b, x.b.size⟩) id i with h | ⟨h1, h2⟩
    · exact .inl (congrArg told h)
    · exact .inr ⟨h1, by simp, h2.imp id (fun h => absurd rfl h.2)⟩
  | 2, _ =>
    rcases op_apart D qt (trimMay (D.tp qt.toNat).b qn) (fun x => ⟨x.b.extract 0 qn.toNat, qn.toNat⟩) id i with h | ⟨h1, h2⟩
    · exact .inl (congrArg told h)
    · exact .inr ⟨h1, by simp, h2.imp id (fun h => absurd rfl h.2)⟩
  | 3, _ =>
    rcases op_apart D qt 0 (fun _ => ⟨⟨#[]⟩, 0⟩) id i with h | ⟨h1, h2⟩
    · exact .inl (congrArg told h)
    · exact .inr ⟨h1, by simp, h2.imp id (fun h => absurd rfl h.2)⟩
  | 4, _ => exact .inl rfl
/-- Acts, as cells. -/
def actL (q : ActV) : List Value := [.int .u8 q.what, .int .i64 q.t, .int .i64 q.n, .string q.s, .slice q.ko q.kl q.kc]
def actsL (f : Nat → ActV) (n : Nat) : List Value := (List.range n).flatMap fun i => actL (f i)
theorem actsL_succ (f : Nat → ActV) (n : Nat) : actsL f (n + 1) = actsL f n ++ actL (f n) := by
  simp [actsL, List.range_succ]
theorem actsL_len (f : Nat → ActV) (n : Nat) : (actsL f n).length = n * 5 := by
  induction n with
  | zero => rfl
  | succ n ih => rw [actsL_succ, List.length_append, ih]; simp [actL]; omega
theorem actsL_get (f : Nat → ActV) (n i : Nat) (h : i < n) (j : Nat) (hj : j < 5) : (actsL f n)[i * 5 + j]? = (actL (f i))[j]? := by
  induction n with
  | zero => omega
  | succ n ih =>
    rw [actsL_succ]
    by_cases hi : i < n
    · rw [List.getElem?_append_left (by rw [actsL_len]; omega), ih hi]
    · obtain rfl : i = n := by omega
      rw [List.getElem?_append_right (by rw [actsL_len]; omega), actsL_len]
      congr 1; omega
theorem actsL_one (f : Nat → ActV) (n : Nat) : ∀ u ∈ actsL f n, u.oneCell' = true := by
  intro u hu
  obtain ⟨i, _, hi⟩ := List.mem_flatMap.1 hu
  simp only [actL, List.mem_cons, List.not_mem_nil, or_false] at hi
  rcases hi with rfl | rfl | rfl | rfl | rfl <;> rfl
/-- The acts with one more. -/
def more (f : Nat → ActV) (n : Nat) (q : ActV) : Nat → ActV := fun i => if i < n then f i else q
theorem more_cost (f : Nat → ActV) (n : Nat) (q : ActV) : ∀ k, k ≤ n → costA (more f n q) k = costA f k
  | 0, _ => rfl
  | k + 1, h => by
    rw [costA, costA, more_cost f n q k (by omega)]
    simp [more, show k < n from h]
theorem more_cells (f : Nat → ActV) (n : Nat) (q : ActV) : actsL (more f n q) (n + 1) = actsL f n ++ actL q := by
  rw [actsL_succ]
  have h1 : more f n q n = q := by simp [more]
  rw [h1]
  congr 1
  unfold actsL
  rw [List.flatMap_def, List.flatMap_def]
  congr 1
  apply List.map_congr_left
  intro i hi
  simp [more, List.mem_range.1 hi]
theorem actL_get (q : ActV) (r : Nat) (u : Value) (h : (actL q)[r]? = some u) : (r = 0 ∧ u = .int .u8 q.what) ∨ (r = 1 ∧ u = .int .i64 q.t) ∨ (r = 2 ∧ u = .int .i64 q.n) ∨ (r = 3 ∧ u = .string q.s) ∨ (r = 4 ∧ u = .slice q.ko q.kl q.kc) := by
  match r with
  | 0 => simp [actL] at h; exact .inl ⟨rfl, h.symm⟩
  | 1 => simp [actL] at h; exact .inr (.inl ⟨rfl, h.symm⟩)
  | 2 => simp [actL] at h; exact .inr (.inr (.inl ⟨rfl, h.symm⟩))
  | 3 => simp [actL] at h; exact .inr (.inr (.inr (.inl ⟨rfl, h.symm⟩)))
  | 4 => simp [actL] at h; exact .inr (.inr (.inr (.inr ⟨rfl, h.symm⟩)))
  | r + 5 => simp [actL] at h
theorem add_lit' (a : Addr) (i r : Nat) : (⟨(a.add i).block, (a.add i).off + (r + 1), none⟩ : Addr) = a.add (i + (r + 1)) := by
  rw [← Addr.add_add, Addr.add_succ']
/-- Acts that came in, as what is appended. -/
theorem ActsIn.cells {w : World} {a : Addr} {len : Nat} {f : Nat → ActV} (h : ActsIn w (some a) len f) (W : World) (hb : Below w.heap.size w W) (j : Nat) (u : Value) (hu : (actsL f len)[j]? = some u) : W.cell? (a.add j) = some u := by
  have hj : j < len * 5 := by
    have := (List.getElem?_eq_some_iff.1 hu).1
    rwa [actsL_len] at this
  obtain ⟨i, r, hir, hr5, hi⟩ : ∃ i r, j = i * 5 + r ∧ r < 5 ∧ i < len := ⟨j / 5, j % 5, by omega, by omega, by omega⟩
  subst hir
  rw [actsL_get f len i hi r hr5] at hu
  obtain ⟨a', ha', _, h0, h1, h2, h3, h4, _⟩ := h W hb i hi
  obtain rfl := Option.some.inj ha'
  rw [add_lit' a (i * 5) 0] at h1
  rw [add_lit' a (i * 5) 1] at h2
  rw [add_lit' a (i * 5) 2] at h3
  rw [add_lit' a (i * 5) 3] at h4
  rcases actL_get _ _ _ hu with ⟨rfl, rfl⟩ | ⟨rfl, rfl⟩ | ⟨rfl, rfl⟩ | ⟨rfl, rfl⟩ | ⟨rfl, rfl⟩
  · exact h0
  · exact h1
  · exact h2
  · exact h3
  · exact h4
/-- A row of acts that the call made. -/
theorem RK.acts {W : World} {g n cap : Nat} {F : Nat → ActV} (hr : RK 5 W (.slice (some ⟨g, 0, none⟩) n cap) n (actsL F n)) (hok : ∀ i, i < n → (F i).ok) (hk : ∀ W', Below W.heap.size W W' → ∀ i, i < n → KeepAt W' (F i).ko (F i).kl (F i).kf) : ActsIn W (some ⟨g, 0, none⟩) n F := fun W' hb i hi => by
  have h := hr.below hb
  have hc : ∀ r u, r < 5 → (actL (F i))[r]? = some u → W'.cell? ⟨g, i * 5 + r, none⟩ = some u := fun r u hr5 hu => h.cell _ _ (by rw [actsL_get F n i hi r hr5]; exact hu)
  refine ⟨_, rfl, hok i hi, ?_, ?_, ?_, ?_, ?_, hk W' hb i hi⟩
  · rw [Addr.add_lit, Nat.zero_add]; exact hc 0 _ (by decide) rfl
  · rw [Addr.add_lit]; simp only [Nat.zero_add]; exact hc 1 _ (by decide) rfl
  · rw [Addr.add_lit]; simp only [Nat.zero_add]; exact hc 2 _ (by decide) rfl
  · rw [Addr.add_lit]; simp only [Nat.zero_add]; exact hc 3 _ (by decide) rfl
  · rw [Addr.add_lit]; simp only [Nat.zero_add]; exact hc 4 _ (by decide) rfl
theorem acts_shape {H : Type} {enc : TypeId × Value → H} {w : World} {base : Nat} {spare : Nat → Bool} {held : Bool} {v : Value} {d : DataW H} {ps : List MemPlace}
    (hv : v.cells.toList = [v]) (h : DataW.Trod enc Try.prog w base spare held 23 v d ps) : (v = .slice none 0 0) ∨ ∃ (a : Addr) (len cap : Nat) (elems sp : List (DataW H)), v = .slice (some a) len cap ∧ d = .slice elems sp ∧ elems.length = len := by
  obtain ⟨fuel, h⟩ := h
  rw [hv] at h
  rcases open_slice Try.underlying23 h with ⟨h0, _⟩ | ⟨a, len, cap, m, n, D, Pl, hcs, _, hlc, hcm, hm, hx, hi⟩
  · exact .inl (by simpa using h0)
  · refine .inr ⟨a, len, cap, _, _, by simpa using hcs, (Prod.mk.inj hx).1, by simp⟩
theorem bytesAct : Try.prog.bytesOf 33 = 64 := by kernel_rfl
/-- One act that came in by itself. -/
theorem act_open {H : Type} {enc : TypeId × Value → H} {w : World} {base : Nat} {spare : Nat → Bool} {held : Bool} {c0 c1 c2 c3 c4 : Value} {d : DataW H} {ps : List MemPlace} {fuel : Nat}
    (h : DataW.trod enc Try.prog w base spare held fuel 33 [c0, c1, c2, c3, c4] = some (d, ps)) : ∃ q : ActV, q.ok ∧ Value.agg #[c0, c1, c2, c3, c4] = q.v ∧ KeepAt w q.ko q.kl q.kf := by
  obtain ⟨xs, n, _, _, _, hxl, hf⟩ := DataW.trod_struct Try.underlying33 h
  have g0 := hf 0 _ rfl
  have g1 := hf 1 _ rfl
  have g2 := hf 2 _ rfl
  have g3 := hf 3 _ rfl
  have g4 := hf 4 _ rfl
  have k_int : Try.prog.cellsOf 3 = 1 := by kernel_rfl
  have k_string : Try.prog.cellsOf 9 = 1 := by kernel_rfl
  have k_ints : Try.prog.cellsOf 31 = 1 := by kernel_rfl
  have k_uint8 : Try.prog.cellsOf 5 = 1 := by kernel_rfl
  match xs, hxl with
  | [y0, y1, y2, y3, y4], _ =>
    have e0 : DataW.trod enc Try.prog w base spare held n 5 [c0] = some y0 := by simpa [k_int, k_string, k_ints, k_uint8] using g0
    have e1 : DataW.trod enc Try.prog w base spare held n 3 [c1] = some y1 := by simpa [k_int, k_string, k_ints, k_uint8] using g1
    have e2 : DataW.trod enc Try.prog w base spare held n 3 [c2] = some y2 := by simpa [k_int, k_string, k_ints, k_uint8] using g2
    have e3 : DataW.trod enc Try.prog w base spare held n 9 [c3] = some y3 := by simpa [k_int, k_string, k_ints, k_uint8] using g3
    have e4 : DataW.trod enc Try.prog w base spare held n 31 [c4] = some y4 := by simpa [k_int, k_string, k_ints, k_uint8] using g4
    obtain ⟨n0, r0, _, w0⟩ := DataW.trod_int Try.underlying5 e0
    obtain ⟨n1, r1, _, w1⟩ := DataW.trod_int Try.underlying3 e1
    obtain ⟨n2, r2, _, w2⟩ := DataW.trod_int Try.underlying3 e2
    obtain ⟨n3, r3, _, w3⟩ := DataW.trod_string Try.underlying9 e3
    obtain ⟨ko, kl, kc, kf, r4, hkl, hk⟩ := keep_open e4
    simp only [List.cons.injEq, and_true] at r0 r1 r2 r3
    subst r0 r1 r2 r3 r4
    obtain ⟨m0, rfl, b0⟩ := wf_u8 w0
    exact ⟨⟨m0, n1, n2, n3, ko, kl, kc, kf⟩, ⟨b0, wf_i64 w1, wf_i64 w2, w3, hkl⟩, rfl, hk⟩
end Go.Proofs.Ytinjagebogifpaa
