/- Letters as keys of a map; what a map of letters holds. -/
import Derived.Test.YtdhpnhdokkhnlaaNetLaw
import Derived.Maps.OwnOps
import Derived.Maps.OwnSet
import Derived.Maps.RangeWalk
import Derived.Maps.Views
import Derived.DeepKeys4
import Derived.WideKeyEntry
namespace Go.Proofs.Ytdhpnhdokkhnlaa
open Go.RowKit Go.Maps
set_option linter.unusedVariables false

def letV (f t : Int) (d : ByteArray) : Value := .agg #[.int .i64 f, .int .i64 t, .string d]
theorem laidOutL : laidOutB Try.prog = true := by kernel_rfl
theorem rowLet : (40 : TypeId) < Try.prog.types.size := of_decide_eq_true (by kernel_rfl)
theorem wideLet : (match Try.prog.underlying 40 with | some (.array _ _) | some (.struct _) => true | _ => false) = true := by kernel_rfl
theorem lawLet : WideMaps.KeyLaw Try.prog 40 := deep_law_laid laidOutL (m := 3) (by omega) rowLet (by kernel_rfl) wideLet
theorem keyedLet : Keyed Try.prog 40 := Keyed.of_law lawLet
theorem zeroInt (w : World) : (zeroValue 3).run Try.prog w = .ok (.int .i64 0) w := by kernel_rfl
theorem typeLet : Try.prog.keyType 40 = true := by kernel_rfl
theorem cellsLet : Try.prog.cellsOf 40 = 3 := by kernel_rfl
theorem cellsInt : Try.prog.cellsOf 3 = 1 := by kernel_rfl
theorem cellsStr : Try.prog.cellsOf 9 = 1 := by kernel_rfl
theorem typesMore : ∃ m, Try.prog.types.size + 1 = m + 1 + 1 := ⟨Try.prog.types.size - 1, by have h : 0 < Try.prog.types.size := Nat.lt_of_le_of_lt (Nat.zero_le _) rowLet; omega⟩
theorem lits_int (m : Nat) (c : Value) : Try.prog.keyLits (m + 1) 3 [c] = match c with | .int q n => if q = .i64 ∧ (Lit.int .i64 n).wf = true then some [.int .i64 n] else none | _ => none := by
  cases c <;> simp [Program.keyLits, Try.underlying3]
theorem lits_str (m : Nat) (c : Value) : Try.prog.keyLits (m + 1) 9 [c] = match c with | .string s => if s.size ≤ maxLen then some [.string s.data.toList] else none | _ => none := by
  cases c <;> simp [Program.keyLits, Try.underlying9]
theorem lits_int_inv {m : Nat} {c : Value} {l : List Lit} (h : Try.prog.keyLits (m + 1) 3 [c] = some l) : ∃ n, c = .int .i64 n := by
  rw [lits_int] at h
  split at h
  · rename_i q n
    split at h
    · rename_i hq
      exact ⟨n, by rw [hq.1]⟩
    · cases h
  · cases h
theorem lits_str_inv {m : Nat} {c : Value} {l : List Lit} (h : Try.prog.keyLits (m + 1) 9 [c] = some l) : ∃ s, c = .string s := by
  rw [lits_str] at h
  split at h
  · exact ⟨_, rfl⟩
  · cases h
theorem lits_let (m : Nat) (c0 c1 c2 : Value) : Try.prog.keyLits (m + 1) 40 [c0, c1, c2] = (do
    let x ← Try.prog.keyLits m 3 [c0]
    let y ← Try.prog.keyLits m 3 [c1]
    let z ← Try.prog.keyLits m 9 [c2]
    pure (x ++ (y ++ (z ++ [])))) := by
  simp [Program.keyLits, Try.underlying40, cellsLet, cellsInt, cellsStr, Option.map_bind]
  cases Try.prog.keyLits m 3 [c0] <;> cases Try.prog.keyLits m 3 [c1] <;> cases Try.prog.keyLits m 9 [c2] <;> simp
theorem keyLet_mk (f t : Int) (d : ByteArray) (hf : (Lit.int .i64 f).wf = true) (ht : (Lit.int .i64 t).wf = true) (hd : d.size ≤ maxLen) : ∃ kl, keyOf Try.prog 40 (letV f t d) = some kl := by
  obtain ⟨m, hm⟩ := typesMore
  unfold keyOf
  rw [Try.underlying40, typeLet]
  have h1 : (letV f t d).formed Try.prog 40 = true := by
    unfold letV Value.formed
    rw [Try.underlying40, cellsLet]; rfl
  have h2 : (letV f t d).cells.toList = [.int .i64 f, .int .i64 t, .string d] := rfl
  rw [h1, h2, hm, lits_let, lits_int, lits_int, lits_str]
  simp [hf, ht, hd]
theorem keyLet_inv (key : Value) (kl : Lit) (h : keyOf Try.prog 40 key = some kl) : ∃ x : Int × Int × ByteArray, key = letV x.1 x.2.1 x.2.2 := by
  obtain ⟨m, hm⟩ := typesMore
  unfold keyOf at h
  rw [Try.underlying40, typeLet, hm] at h
  simp only [Bool.true_and] at h
  split at h
  · rename_i hf
    obtain ⟨cs, rfl, hcs⟩ : ∃ cs : Array Value, key = .agg cs ∧ cs.size = 3 := by
      unfold Value.formed at hf
      rw [Try.underlying40] at hf
      split at hf
      · rename_i cs
        rw [cellsLet] at hf
        exact ⟨cs, rfl, by simpa using hf⟩
      · cases hf
      · cases hf
    obtain ⟨l⟩ := cs
    match l, hcs with
    | [c0, c1, c2], _ =>
      have h2 : (Value.agg #[c0, c1, c2]).cells.toList = [c0, c1, c2] := rfl
      rw [h2, lits_let] at h
      simp only [Option.map_eq_some_iff, Option.bind_eq_bind, Option.bind_eq_some_iff] at h
      obtain ⟨_, ⟨x, hx, y, hy, z, hz, _⟩, _⟩ := h
      obtain ⟨a, rfl⟩ := lits_int_inv hx
      obtain ⟨b, rfl⟩ := lits_int_inv hy
      obtain ⟨s, rfl⟩ := lits_str_inv hz
      exact ⟨(a, b, s), rfl⟩
  · cases h
/-! ### Plain law -/
/-- Mails under way are of nodes, and small. -/
structure Fine (N : NetV) : Prop where
  cons : N.sent + N.doubled = N.taken + N.lost + N.l.length
  wl : ∀ m ∈ N.l, (0 ≤ m.frm ∧ m.frm < 5) ∧ (0 ≤ m.to ∧ m.to < 5) ∧ m.data.size ≤ 262144
  nodes : N.nodes ≤ 5
def MailV.let (m : MailV) : Value := letV m.frm m.to m.data
noncomputable def letK (m : MailV) : Lit := (keyOf Try.prog 40 m.let).getD (.bool false)
theorem wf_small {a : Int} (h : 0 ≤ a ∧ a < 5) : (Lit.int .i64 a).wf = true := WalkArith.wf_i64 (by omega)
theorem letK_of {m : MailV} (h : (0 ≤ m.frm ∧ m.frm < 5) ∧ (0 ≤ m.to ∧ m.to < 5) ∧ m.data.size ≤ 262144) : keyOf Try.prog 40 m.let = some (letK m) := by
  obtain ⟨kl, hk⟩ := keyLet_mk m.frm m.to m.data (wf_small h.1) (wf_small h.2.1) (by unfold maxLen; omega)
  unfold letK
  rw [show keyOf Try.prog 40 m.let = some kl from hk]; rfl
theorem letK_same {m m' : MailV} (h1 : m.frm = m'.frm) (h2 : m.to = m'.to) (h3 : m.data = m'.data) : letK m = letK m' := by
  unfold letK MailV.let; rw [h1, h2, h3]
/-- How often a letter is among mails. -/
noncomputable def cnt (l : List MailV) (kl : Lit) : Nat := by
  classical exact l.countP (fun m => decide (letK m = kl))
theorem cnt_nil (kl : Lit) : cnt [] kl = 0 := rfl
theorem cnt_append (l k : List MailV) (kl : Lit) : cnt (l ++ k) kl = cnt l kl + cnt k kl := by
  classical
  unfold cnt; exact List.countP_append
theorem cnt_cons (m : MailV) (l : List MailV) (kl : Lit) : cnt (m :: l) kl = cnt [m] kl + cnt l kl := cnt_append [m] l kl
theorem cnt_self (m : MailV) : cnt [m] (letK m) = 1 := by
  classical
  unfold cnt; simp
theorem cnt_other {m : MailV} {kl : Lit} (h : kl ≠ letK m) : cnt [m] kl = 0 := by
  classical
  unfold cnt
  rw [List.countP_eq_zero]
  intro x hx
  obtain rfl := List.mem_singleton.1 hx
  simpa using fun e => h (Eq.symm e)
theorem cnt_le (l : List MailV) (kl : Lit) : cnt l kl ≤ l.length := by
  classical
  unfold cnt; exact List.countP_le_length
theorem cnt_out (l : List MailV) (i : Nat) (h : i < l.length) (kl : Lit) : cnt l kl = cnt (outL l i) kl + cnt [l[i]] kl := by
  have e : l = l.take i ++ l[i] :: l.drop (i + 1) := by rw [List.getElem_cons_drop, List.take_append_drop]
  conv => lhs; rw [e]
  unfold outL
  rw [cnt_append, cnt_cons, cnt_append]; omega
/-- What the map holds: a number for each letter. -/
def Bal (D : DataW Unit) (c : Lit → Nat) : Prop := ∀ kl, D.atKey kl (.lit (.int .i64 0)) = .lit (.int .i64 (c kl : Nat))
theorem Bal.nil : Bal (.map []) (cnt []) := fun kl => rfl
theorem Bal.put {D : DataW Unit} {c c' : Lit → Nat} {kl : Lit} (h : Bal D c) (hm : IsMap D) (hk : WideAt.IsKeyLit kl) (ho : ∀ k', k' ≠ kl → c' k' = c k') : Bal (D.put kl (.lit (.int .i64 (c' kl : Nat)))) c' := by
  intro k'
  by_cases e : k' = kl
  · subst e; exact atKey_put_same hm hk _ _
  · rw [atKey_put_other e, h k', ho k' e]
theorem Fine.new (n : Int) (h : n ≤ 5) : Fine ⟨0, 0, 0, 0, n, 0, []⟩ := ⟨by simp, fun m hm => by simp at hm, h⟩
theorem outL_mem {l : List MailV} {i : Nat} {m : MailV} (h : m ∈ outL l i) : m ∈ l := by
  unfold outL at h
  rcases List.mem_append.1 h with h | h
  · exact List.mem_of_mem_take h
  · exact List.mem_of_mem_drop h
theorem Fine.send {N : NetV} (h : Fine N) (f t : Int) (d : ByteArray) : Fine (sendV N f t d).2 ∧ (((sendV N f t d).1.2 = 0 ∧ (∃ m : MailV, m.frm = f ∧ m.to = t ∧ m.data = d ∧ (sendV N f t d).2.l = N.l ++ [m])) ∨ ((sendV N f t d).1.2 ≠ 0 ∧ (sendV N f t d).2.l = N.l)) := by
  obtain ⟨h1, h2, h3⟩ := h
  unfold sendV
  split
  · exact ⟨⟨h1, h2, h3⟩, .inr ⟨by simp, rfl⟩⟩
  · rename_i a1
    split
    · exact ⟨⟨h1, h2, h3⟩, .inr ⟨by simp, rfl⟩⟩
    · rename_i a2
      split
      · exact ⟨⟨by simp only []; omega, h2, h3⟩, .inr ⟨by simp, rfl⟩⟩
      · refine ⟨⟨by simp only [List.length_append, List.length_singleton]; omega, fun m hm => ?_, h3⟩, .inl ⟨rfl, _, rfl, rfl, rfl, rfl⟩⟩
        rcases List.mem_append.1 hm with hm | hm
        · exact h2 m hm
        · obtain rfl := List.mem_singleton.1 hm
          simp only []; omega
theorem Fine.take {N : NetV} (h : Fine N) (i : Int) : Fine (takeV N i).2 ∧ (((takeV N i).1.2 = 0 ∧ (∃ (k : Nat) (hk : k < N.l.length), i = k ∧ (takeV N i).1.1 = N.l[k] ∧ (takeV N i).2.l = outL N.l k)) ∨ ((takeV N i).1.2 ≠ 0 ∧ (takeV N i).2.l = N.l)) := by
  obtain ⟨h1, h2, h3⟩ := h
  rcases place N i with hi | ⟨k, rfl, hk⟩
  · unfold takeV
    rw [if_pos hi]
    exact ⟨⟨h1, h2, h3⟩, .inr ⟨by simp, rfl⟩⟩
  · unfold takeV
    rw [if_neg (by omega), Int.toNat_natCast]
    have := outL_len N.l k hk
    refine ⟨⟨by simp only []; omega, fun m hm => h2 m (outL_mem hm), h3⟩, .inl ⟨rfl, k, hk, rfl, ?_, rfl⟩⟩
    simp [List.getD, List.getElem?_eq_getElem hk]
theorem Fine.lose {N : NetV} (h : Fine N) (i : Int) : Fine (loseV N i).2 ∧ (((loseV N i).1 = 0 ∧ (∃ (k : Nat) (hk : k < N.l.length), i = k ∧ (loseV N i).2.l = outL N.l k)) ∨ ((loseV N i).1 ≠ 0 ∧ (loseV N i).2.l = N.l)) := by
  obtain ⟨h1, h2, h3⟩ := h
  rcases place N i with hi | ⟨k, rfl, hk⟩
  · unfold loseV
    rw [if_pos hi]
    exact ⟨⟨h1, h2, h3⟩, .inr ⟨by simp, rfl⟩⟩
  · unfold loseV
    rw [if_neg (by omega), Int.toNat_natCast]
    have := outL_len N.l k hk
    exact ⟨⟨by simp only []; omega, fun m hm => h2 m (outL_mem hm), h3⟩, .inl ⟨rfl, k, hk, rfl, rfl⟩⟩
theorem Fine.twice {N : NetV} (h : Fine N) (i : Int) : Fine (twiceV N i).2 ∧ (((twiceV N i).1.2 = 0 ∧ (∃ (k : Nat) (hk : k < N.l.length) (m : MailV), i = k ∧ m.frm = N.l[k].frm ∧ m.to = N.l[k].to ∧ m.data = N.l[k].data ∧ (twiceV N i).2.l = N.l ++ [m])) ∨ ((twiceV N i).1.2 ≠ 0 ∧ (twiceV N i).2.l = N.l)) := by
  obtain ⟨h1, h2, h3⟩ := h
  rcases place N i with hi | ⟨k, rfl, hk⟩
  · unfold twiceV
    rw [if_pos hi]
    exact ⟨⟨h1, h2, h3⟩, .inr ⟨by simp, rfl⟩⟩
  · unfold twiceV
    rw [if_neg (by omega)]
    split
    · exact ⟨⟨h1, h2, h3⟩, .inr ⟨by simp, rfl⟩⟩
    · have e : N.l.getD (k : Int).toNat zeroMail = N.l[k] := by simp [List.getD, List.getElem?_eq_getElem hk]
      rw [e]
      refine ⟨⟨by simp only [List.length_append, List.length_singleton]; omega, fun m hm => ?_, h3⟩, .inl ⟨rfl, k, hk, ⟨N.last + 1, N.l[k].frm, N.l[k].to, N.l[k].data⟩, rfl, rfl, rfl, rfl, rfl⟩⟩
      rcases List.mem_append.1 hm with hm | hm
      · exact h2 m hm
      · obtain rfl := List.mem_singleton.1 hm
        have := h2 _ (List.getElem_mem hk)
        exact this
/-! ### The map's operations -/
abbrev Own (W : World) (B n : Nat) (D : DataW Unit) : Prop := W.ownsMap Try.prog 40 (plainElem Try.prog 3) B n D
theorem Own.same {W W' : World} {B n : Nat} {D : DataW Unit} (h : Own W B n D) (hb : W'.heap[B]? = W.heap[B]?) : Own W' B n D := by
  obtain ⟨es, clock, h1, h2⟩ := h
  exact ⟨es, clock, hb.trans h1, h2⟩
theorem run_look {W : World} {B n : Nat} {D : DataW Unit} {c : Lit → Nat} (h : Own W B n D) (hb : Bal D c) {key : Value} {kl : Lit} (hkey : keyOf Try.prog 40 key = some kl) :
    (Instr.lookup 49 (.map (some B)) key false).run Try.prog W = .ok (.int .i64 (c kl : Nat)) W := by
  obtain ⟨x, hrun, hat, _⟩ := h.lookup_int keyedLet Try.underlying49 Try.underlying3 (zeroInt W) hkey
  rw [hb kl] at hat
  have : (c kl : Int) = x := by simpa using hat
  rw [this]; exact hrun
theorem set_set (W : World) (B : Nat) (o1 o2 : Obj) : ChangeMaps.setBlock (ChangeMaps.setBlock W B o1) B o2 = ChangeMaps.setBlock W B o2 := by
  simp [ChangeMaps.setBlock]
theorem entry_own {W : World} {B n : Nat} {D : DataW Unit} {c : Lit → Nat} (h : Own W B n D) (hn : n < maxLen) (hb : Bal D c) {key : Value} {kl : Lit} (hkey : keyOf Try.prog 40 key = some kl) {v : Value} {W1 : World}
    (hrun : (Instr.mapEntry 49 (.map (some B)) key).run Try.prog W = .ok v W1) : ∃ D1, Own W1 B (n + 1) D1 ∧ Bal D1 c := by
  have h' := h
  obtain ⟨es, clock, hbk, F, hs, hD⟩ := h'
  have ht := Try.underlying49
  have hkk : WideAt.IsKeyLit kl := keyedLet.key hkey
  rcases lawLet.find W hkey es.toList F.keys with ⟨h1, h2⟩ | ⟨j, e0, h1, h2, h3⟩
  · have hl := run_look h hb hkey
    simp [Instr.lookup, MapKept.run_getObj_map hbk, run_underlying ht, lawLet.check W _ hkey, h1, Result.andThen] at hl
    have hc : c kl = 0 := by omega
    obtain ⟨w', hup, hown, _⟩ := h.update (t := 49) (e := 3) keyedLet ht hn (val := .int .i64 0) hkey (plainElem_int Try.underlying3 (WalkArith.wf_i64 (by omega)))
    simp [Instr.mapUpdate, run_underlying ht, MapKept.run_getObj_map hbk, lawLet.check W false hkey, h1, MapKept.run_setObj_map _ hbk, Result.andThen] at hup
    simp [Instr.mapEntry, run_underlying ht, MapKept.run_getObj_map hbk, lawLet.check W false hkey, h1, MapKept.run_setObj_map _ hbk, Result.andThen] at hrun
    rw [← hrun.2, hup]
    refine ⟨_, hown, ?_⟩
    have := hb.put (c' := c) h.isMap hkk (fun _ _ => rfl)
    rw [hc] at this
    exact this
  · have hj : es[j]? = some e0 := by simpa using h2
    have hsame : es.modify j (fun e => { e with key := key }) = es := by
      apply Array.ext'
      rw [Array.toList_modify, ChangeMaps.modify_eq_set _ _ _ _ h2]
      have : ({ e0 with key := key } : MapEntry) = e0 := by rw [← h3]
      rw [this]
      exact WideElems.set_self _ _ _ h2
    simp [Instr.mapEntry, run_underlying ht, MapKept.run_getObj_map hbk, lawLet.check W false hkey, h1, hj, h3, lawLet.stays W hkey, hsame, MapKept.run_setObj_map _ hbk, Result.andThen] at hrun
    rw [← hrun.2]
    refine ⟨D, ?_, hb⟩
    refine World.ownsMap.mono (h.same ?_) (Nat.le_succ n)
    rw [show ({ W with heap := W.heap.setIfInBounds B (.map es clock) } : World).heap[B]? = some (.map es clock) from (MapKept.heap_set hbk).1, hbk]
theorem map_step {W : World} {B n : Nat} {D : DataW Unit} {c c' : Lit → Nat} (h : Own W B n D) (hn : n < maxLen) (hb : Bal D c) {key : Value} {kl : Lit} (hkey : keyOf Try.prog 40 key = some kl) (ho : ∀ k', k' ≠ kl → c' k' = c k') (hc : c' kl < 1000000) :
    ∃ (st : Value) (v0 : Value) (W1 W2 : World) (D2 : DataW Unit), (Instr.lookup 49 (.map (some B)) key false).run Try.prog W = .ok (.int .i64 (c kl : Nat)) W ∧
      (Instr.mapEntry 49 (.map (some B)) key).run Try.prog W = .ok (.tuple #[v0, st]) W1 ∧
      (Instr.lookup 49 (.map (some B)) key false).run Try.prog W1 = .ok (.int .i64 (c kl : Nat)) W1 ∧
      (Instr.entryStore 49 (.map (some B)) st (.int .i64 (c' kl : Nat))).run Try.prog W1 = .ok () W2 ∧ Own W2 B (n + 1) D2 ∧ Bal D2 c' ∧ W.grownBy W2 (some B) := by
  have h' := h
  obtain ⟨es, clock, hbk, F, hs, hD⟩ := h'
  have ht := Try.underlying49
  have hkk : WideAt.IsKeyLit kl := keyedLet.key hkey
  obtain ⟨v0, st, es1, clock1, hentry, _, hstore⟩ := WideElems.entry_then_store lawLet ht zeroInt hbk F hkey
  obtain ⟨D1, hown1, hb1⟩ := entry_own h hn hb hkey hentry
  obtain ⟨es2, clock2, hst, hup⟩ := hstore (ChangeMaps.setBlock W B (.map es1 clock1)) (.int .i64 (c' kl : Nat)) (ChangeMaps.heap_setBlock_same hbk _)
  obtain ⟨w', hup', hown2, hg⟩ := h.update (t := 49) (e := 3) keyedLet ht hn hkey (plainElem_int Try.underlying3 (WalkArith.wf_i64 (n := (c' kl : Nat)) (by omega)))
  rw [hup] at hup'
  obtain rfl : ChangeMaps.setBlock W B (.map es2 clock2) = w' := by injection hup'
  rw [set_set] at hst
  exact ⟨_, v0, _, _, _, run_look h hb hkey, hentry, run_look hown1 hb1 hkey, hst, hown2, hb.put h.isMap hkk ho, hg⟩
end Go.Proofs.Ytdhpnhdokkhnlaa
