/- The walk of HeadNames: it returns true, and leaves what was there. -/
import Derived.Test.YtjpkncfmionieaaDoorHeadOpen
namespace Go.Proofs.YtjpkncfmionieaaDoor
open Go.RowKit
set_option linter.unusedVariables false

def allocs (w : World) (os : List Obj) : World := os.foldl World.alloc w
theorem allocs_size : ∀ (os : List Obj) (w : World), (allocs w os).heap.size = w.heap.size + os.length
  | [], w => rfl
  | o :: r, w => by
    show (allocs (w.alloc o) r).heap.size = _
    rw [allocs_size r (w.alloc o)]
    simp; omega
theorem allocs_below : ∀ (os : List Obj) (w : World), Below w.heap.size w (allocs w os)
  | [], w => Below.refl _ _
  | o :: r, w => by
    have h1 : Below w.heap.size w (w.alloc o) := (Below.refl _ _).alloc (Nat.le_refl _) _
    exact h1.trans ((allocs_below r (w.alloc o)).mono h1.size)
theorem allocs_get : ∀ (os : List Obj) (w : World) (i : Nat) (o : Obj), os[i]? = some o → (allocs w os).heap[w.heap.size + i]? = some o
  | [], w, i, o, h => by simp at h
  | a :: r, w, 0, o, h => by
    have h' : a = o := by simpa using h
    subst h'
    exact ((allocs_below r (w.alloc a)).block w.heap.size (by simp)).trans (heap_alloc_new w a)
  | a :: r, w, i + 1, o, h => by
    have := allocs_get r (w.alloc a) i o (by simpa using h)
    have e : (w.alloc a).heap.size + i = w.heap.size + (i + 1) := by simp; omega
    rw [e] at this
    exact this
def rowF (l : List Int) : Nat → Int := fun j => l.getD j 0
theorem row_block {W : World} {b n : Nat} {l : List Int} (h : W.heap[b]? = some (.cells (l.map fun x => Value.int .i64 x).toArray 3 (0, 0))) (hn : l.length = n) : IntsAt W (some ⟨b, 0, none⟩) n (rowF l) := fun W' hW j hj => by
  refine ⟨_, rfl, ?_⟩
  rw [Addr.add_lit, Nat.zero_add, cell_of_row _ _ _ _ _ _ ((hW.block b (lt_of_block' h)).trans h)]
  have hj' : j < l.length := by omega
  simp [rowF, hj']
def badH (B : Nat) : List HdV := [
  ⟨0, 0, 0, none, 0, 0, fun _ => 0⟩,
  ⟨1, 0, 0, none, 0, 0, fun _ => 0⟩,
  ⟨0, 0, 0, some ⟨B, 0, none⟩, 1, 1, rowF [2]⟩,
  ⟨1099511627777, 0, 0, some ⟨B + 1, 0, none⟩, 1, 1, rowF [2]⟩,
  ⟨1, 1, 0, some ⟨B + 1 + 1, 0, none⟩, 1, 1, rowF [2]⟩,
  ⟨1, -1, 3, some ⟨B + 1 + 1 + 1, 0, none⟩, 1, 1, rowF [2]⟩,
  ⟨1, 1099511627777, 3, some ⟨B + 1 + 1 + 1 + 1, 0, none⟩, 1, 1, rowF [2]⟩,
  ⟨1, 0, 1, some ⟨B + 1 + 1 + 1 + 1 + 1, 0, none⟩, 1, 1, rowF [2]⟩,
  ⟨1, 0, 32, some ⟨B + 1 + 1 + 1 + 1 + 1 + 1, 0, none⟩, 1, 1, rowF [2]⟩,
  ⟨1, 0, 2, some ⟨B + 1 + 1 + 1 + 1 + 1 + 1 + 1, 0, none⟩, 1, 1, rowF [2]⟩,
  ⟨1, 0, -1, some ⟨B + 1 + 1 + 1 + 1 + 1 + 1 + 1 + 1, 0, none⟩, 1, 1, rowF [2]⟩,
  ⟨1, 0, 0, some ⟨B + 1 + 1 + 1 + 1 + 1 + 1 + 1 + 1 + 1, 0, none⟩, 1, 1, rowF [0]⟩,
  ⟨1, 0, 0, some ⟨B + 1 + 1 + 1 + 1 + 1 + 1 + 1 + 1 + 1 + 1, 0, none⟩, 1, 1, rowF [1]⟩,
  ⟨1, 0, 0, some ⟨B + 1 + 1 + 1 + 1 + 1 + 1 + 1 + 1 + 1 + 1 + 1, 0, none⟩, 1, 1, rowF [32]⟩,
  ⟨1, 0, 0, some ⟨B + 1 + 1 + 1 + 1 + 1 + 1 + 1 + 1 + 1 + 1 + 1 + 1, 0, none⟩, 1, 1, rowF [-2]⟩,
  ⟨1, 0, 0, some ⟨B + 1 + 1 + 1 + 1 + 1 + 1 + 1 + 1 + 1 + 1 + 1 + 1 + 1, 0, none⟩, 3, 3, rowF [4, 5, 4]⟩]
def badCells (B : Nat) : Array Value := #[.int .i64 0, .int .i64 0, .int .i64 0, .slice none 0 0, .int .i64 1, .int .i64 0, .int .i64 0, .slice none 0 0, .int .i64 0, .int .i64 0, .int .i64 0, .slice (some ⟨B, 0, none⟩) 1 1, .int .i64 1099511627777, .int .i64 0, .int .i64 0, .slice (some ⟨B + 1, 0, none⟩) 1 1, .int .i64 1, .int .i64 1, .int .i64 0, .slice (some ⟨B + 1 + 1, 0, none⟩) 1 1, .int .i64 1, .int .i64 (-1), .int .i64 3, .slice (some ⟨B + 1 + 1 + 1, 0, none⟩) 1 1, .int .i64 1, .int .i64 1099511627777, .int .i64 3, .slice (some ⟨B + 1 + 1 + 1 + 1, 0, none⟩) 1 1, .int .i64 1, .int .i64 0, .int .i64 1, .slice (some ⟨B + 1 + 1 + 1 + 1 + 1, 0, none⟩) 1 1, .int .i64 1, .int .i64 0, .int .i64 32, .slice (some ⟨B + 1 + 1 + 1 + 1 + 1 + 1, 0, none⟩) 1 1, .int .i64 1, .int .i64 0, .int .i64 2, .slice (some ⟨B + 1 + 1 + 1 + 1 + 1 + 1 + 1, 0, none⟩) 1 1, .int .i64 1, .int .i64 0, .int .i64 (-1), .slice (some ⟨B + 1 + 1 + 1 + 1 + 1 + 1 + 1 + 1, 0, none⟩) 1 1, .int .i64 1, .int .i64 0, .int .i64 0, .slice (some ⟨B + 1 + 1 + 1 + 1 + 1 + 1 + 1 + 1 + 1, 0, none⟩) 1 1, .int .i64 1, .int .i64 0, .int .i64 0, .slice (some ⟨B + 1 + 1 + 1 + 1 + 1 + 1 + 1 + 1 + 1 + 1, 0, none⟩) 1 1, .int .i64 1, .int .i64 0, .int .i64 0, .slice (some ⟨B + 1 + 1 + 1 + 1 + 1 + 1 + 1 + 1 + 1 + 1 + 1, 0, none⟩) 1 1, .int .i64 1, .int .i64 0, .int .i64 0, .slice (some ⟨B + 1 + 1 + 1 + 1 + 1 + 1 + 1 + 1 + 1 + 1 + 1 + 1, 0, none⟩) 1 1, .int .i64 1, .int .i64 0, .int .i64 0, .slice (some ⟨B + 1 + 1 + 1 + 1 + 1 + 1 + 1 + 1 + 1 + 1 + 1 + 1 + 1, 0, none⟩) 3 3]
theorem bad_may (B : Nat) : ∀ k, k < 16 → ((badH B)[k]?.map fun q => q.hv.may) = some false := by
  intro k hk
  obtain rfl | rfl | rfl | rfl | rfl | rfl | rfl | rfl | rfl | rfl | rfl | rfl | rfl | rfl | rfl | rfl : k = 0 ∨ k = 1 ∨ k = 2 ∨ k = 3 ∨ k = 4 ∨ k = 5 ∨ k = 6 ∨ k = 7 ∨ k = 8 ∨ k = 9 ∨ k = 10 ∨ k = 11 ∨ k = 12 ∨ k = 13 ∨ k = 14 ∨ k = 15 := by omega
  · exact congrArg some (show Hd.HV.may ⟨0, 0, 0, []⟩ = false by decide)
  · exact congrArg some (show Hd.HV.may ⟨1, 0, 0, []⟩ = false by decide)
  · exact congrArg some (show Hd.HV.may ⟨0, 0, 0, [2]⟩ = false by decide)
  · exact congrArg some (show Hd.HV.may ⟨1099511627777, 0, 0, [2]⟩ = false by decide)
  · exact congrArg some (show Hd.HV.may ⟨1, 1, 0, [2]⟩ = false by decide)
  · exact congrArg some (show Hd.HV.may ⟨1, -1, 3, [2]⟩ = false by decide)
  · exact congrArg some (show Hd.HV.may ⟨1, 1099511627777, 3, [2]⟩ = false by decide)
  · exact congrArg some (show Hd.HV.may ⟨1, 0, 1, [2]⟩ = false by decide)
  · exact congrArg some (show Hd.HV.may ⟨1, 0, 32, [2]⟩ = false by decide)
  · exact congrArg some (show Hd.HV.may ⟨1, 0, 2, [2]⟩ = false by decide)
  · exact congrArg some (show Hd.HV.may ⟨1, 0, -1, [2]⟩ = false by decide)
  · exact congrArg some (show Hd.HV.may ⟨1, 0, 0, [0]⟩ = false by decide)
  · exact congrArg some (show Hd.HV.may ⟨1, 0, 0, [1]⟩ = false by decide)
  · exact congrArg some (show Hd.HV.may ⟨1, 0, 0, [32]⟩ = false by decide)
  · exact congrArg some (show Hd.HV.may ⟨1, 0, 0, [-2]⟩ = false by decide)
  · exact congrArg some (show Hd.HV.may ⟨1, 0, 0, [4, 5, 4]⟩ = false by decide)
theorem bad_cells (B : Nat) : ∀ (k : Nat) (q : HdV), (badH B)[k]? = some q → (badCells B)[k * 4]? = some (.int .i64 q.gen) ∧ (badCells B)[k * 4 + 1]? = some (.int .i64 q.base) ∧ (badCells B)[k * 4 + 2]? = some (.int .i64 q.snap) ∧ (badCells B)[k * 4 + 3]? = some (.slice q.lo q.ll q.lc) := by
  intro k q h
  by_cases hk : k < 16
  · obtain rfl | rfl | rfl | rfl | rfl | rfl | rfl | rfl | rfl | rfl | rfl | rfl | rfl | rfl | rfl | rfl : k = 0 ∨ k = 1 ∨ k = 2 ∨ k = 3 ∨ k = 4 ∨ k = 5 ∨ k = 6 ∨ k = 7 ∨ k = 8 ∨ k = 9 ∨ k = 10 ∨ k = 11 ∨ k = 12 ∨ k = 13 ∨ k = 14 ∨ k = 15 := by omega
    · obtain rfl := Option.some.inj h; exact ⟨rfl, rfl, rfl, rfl⟩
    · obtain rfl := Option.some.inj h; exact ⟨rfl, rfl, rfl, rfl⟩
    · obtain rfl := Option.some.inj h; exact ⟨rfl, rfl, rfl, rfl⟩
    · obtain rfl := Option.some.inj h; exact ⟨rfl, rfl, rfl, rfl⟩
    · obtain rfl := Option.some.inj h; exact ⟨rfl, rfl, rfl, rfl⟩
    · obtain rfl := Option.some.inj h; exact ⟨rfl, rfl, rfl, rfl⟩
    · obtain rfl := Option.some.inj h; exact ⟨rfl, rfl, rfl, rfl⟩
    · obtain rfl := Option.some.inj h; exact ⟨rfl, rfl, rfl, rfl⟩
    · obtain rfl := Option.some.inj h; exact ⟨rfl, rfl, rfl, rfl⟩
    · obtain rfl := Option.some.inj h; exact ⟨rfl, rfl, rfl, rfl⟩
    · obtain rfl := Option.some.inj h; exact ⟨rfl, rfl, rfl, rfl⟩
    · obtain rfl := Option.some.inj h; exact ⟨rfl, rfl, rfl, rfl⟩
    · obtain rfl := Option.some.inj h; exact ⟨rfl, rfl, rfl, rfl⟩
    · obtain rfl := Option.some.inj h; exact ⟨rfl, rfl, rfl, rfl⟩
    · obtain rfl := Option.some.inj h; exact ⟨rfl, rfl, rfl, rfl⟩
    · obtain rfl := Option.some.inj h; exact ⟨rfl, rfl, rfl, rfl⟩
  · rw [List.getElem?_eq_none (by show 16 ≤ k; omega)] at h
    cases h
def badRows : List Obj := [
  (.cells #[.int .i64 2] 3 (0, 0)),
  (.cells #[.int .i64 2] 3 (0, 0)),
  (.cells #[.int .i64 2] 3 (0, 0)),
  (.cells #[.int .i64 2] 3 (0, 0)),
  (.cells #[.int .i64 2] 3 (0, 0)),
  (.cells #[.int .i64 2] 3 (0, 0)),
  (.cells #[.int .i64 2] 3 (0, 0)),
  (.cells #[.int .i64 2] 3 (0, 0)),
  (.cells #[.int .i64 2] 3 (0, 0)),
  (.cells #[.int .i64 0] 3 (0, 0)),
  (.cells #[.int .i64 1] 3 (0, 0)),
  (.cells #[.int .i64 32] 3 (0, 0)),
  (.cells #[.int .i64 (-2)] 3 (0, 0)),
  (.cells #[.int .i64 4, .int .i64 5, .int .i64 4] 3 (0, 0))]
theorem bad_at (B : Nat) (W : World) (hr : ∀ (i : Nat) (o : Obj), badRows[i]? = some o → W.heap[B + i]? = some o) : ∀ (k : Nat) (q : HdV), (badH B)[k]? = some q → HdAt W q := by
  intro k q h
  by_cases hk : k < 16
  · obtain rfl | rfl | rfl | rfl | rfl | rfl | rfl | rfl | rfl | rfl | rfl | rfl | rfl | rfl | rfl | rfl : k = 0 ∨ k = 1 ∨ k = 2 ∨ k = 3 ∨ k = 4 ∨ k = 5 ∨ k = 6 ∨ k = 7 ∨ k = 8 ∨ k = 9 ∨ k = 10 ∨ k = 11 ∨ k = 12 ∨ k = 13 ∨ k = 14 ∨ k = 15 := by omega
    · obtain rfl := Option.some.inj h; exact ⟨(by show 0 + 1 ≤ maxLen; decide), (by show (0 + 1) * 8 ≤ 140737488355328; decide), .inl ⟨rfl, rfl, rfl⟩, fun W' hW j hj => absurd hj (Nat.not_lt_zero j)⟩
    · obtain rfl := Option.some.inj h; exact ⟨(by show 0 + 1 ≤ maxLen; decide), (by show (0 + 1) * 8 ≤ 140737488355328; decide), .inl ⟨rfl, rfl, rfl⟩, fun W' hW j hj => absurd hj (Nat.not_lt_zero j)⟩
    · obtain rfl := Option.some.inj h; exact ⟨(by show 1 + 1 ≤ maxLen; decide), (by show (1 + 1) * 8 ≤ 140737488355328; decide), .inr ⟨_, rfl⟩, row_block (l := [2]) (hr 0 _ rfl) rfl⟩
    · obtain rfl := Option.some.inj h; exact ⟨(by show 1 + 1 ≤ maxLen; decide), (by show (1 + 1) * 8 ≤ 140737488355328; decide), .inr ⟨_, rfl⟩, row_block (l := [2]) (hr 1 _ rfl) rfl⟩
    · obtain rfl := Option.some.inj h; exact ⟨(by show 1 + 1 ≤ maxLen; decide), (by show (1 + 1) * 8 ≤ 140737488355328; decide), .inr ⟨_, rfl⟩, row_block (l := [2]) (hr 2 _ rfl) rfl⟩
    · obtain rfl := Option.some.inj h; exact ⟨(by show 1 + 1 ≤ maxLen; decide), (by show (1 + 1) * 8 ≤ 140737488355328; decide), .inr ⟨_, rfl⟩, row_block (l := [2]) (hr 3 _ rfl) rfl⟩
    · obtain rfl := Option.some.inj h; exact ⟨(by show 1 + 1 ≤ maxLen; decide), (by show (1 + 1) * 8 ≤ 140737488355328; decide), .inr ⟨_, rfl⟩, row_block (l := [2]) (hr 4 _ rfl) rfl⟩
    · obtain rfl := Option.some.inj h; exact ⟨(by show 1 + 1 ≤ maxLen; decide), (by show (1 + 1) * 8 ≤ 140737488355328; decide), .inr ⟨_, rfl⟩, row_block (l := [2]) (hr 5 _ rfl) rfl⟩
    · obtain rfl := Option.some.inj h; exact ⟨(by show 1 + 1 ≤ maxLen; decide), (by show (1 + 1) * 8 ≤ 140737488355328; decide), .inr ⟨_, rfl⟩, row_block (l := [2]) (hr 6 _ rfl) rfl⟩
    · obtain rfl := Option.some.inj h; exact ⟨(by show 1 + 1 ≤ maxLen; decide), (by show (1 + 1) * 8 ≤ 140737488355328; decide), .inr ⟨_, rfl⟩, row_block (l := [2]) (hr 7 _ rfl) rfl⟩
    · obtain rfl := Option.some.inj h; exact ⟨(by show 1 + 1 ≤ maxLen; decide), (by show (1 + 1) * 8 ≤ 140737488355328; decide), .inr ⟨_, rfl⟩, row_block (l := [2]) (hr 8 _ rfl) rfl⟩
    · obtain rfl := Option.some.inj h; exact ⟨(by show 1 + 1 ≤ maxLen; decide), (by show (1 + 1) * 8 ≤ 140737488355328; decide), .inr ⟨_, rfl⟩, row_block (l := [0]) (hr 9 _ rfl) rfl⟩
    · obtain rfl := Option.some.inj h; exact ⟨(by show 1 + 1 ≤ maxLen; decide), (by show (1 + 1) * 8 ≤ 140737488355328; decide), .inr ⟨_, rfl⟩, row_block (l := [1]) (hr 10 _ rfl) rfl⟩
    · obtain rfl := Option.some.inj h; exact ⟨(by show 1 + 1 ≤ maxLen; decide), (by show (1 + 1) * 8 ≤ 140737488355328; decide), .inr ⟨_, rfl⟩, row_block (l := [32]) (hr 11 _ rfl) rfl⟩
    · obtain rfl := Option.some.inj h; exact ⟨(by show 1 + 1 ≤ maxLen; decide), (by show (1 + 1) * 8 ≤ 140737488355328; decide), .inr ⟨_, rfl⟩, row_block (l := [-2]) (hr 12 _ rfl) rfl⟩
    · obtain rfl := Option.some.inj h; exact ⟨(by show 3 + 1 ≤ maxLen; decide), (by show (3 + 1) * 8 ≤ 140737488355328; decide), .inr ⟨_, rfl⟩, row_block (l := [4, 5, 4]) (hr 13 _ rfl) rfl⟩
  · rw [List.getElem?_eq_none (by show 16 ≤ k; omega)] at h
    cases h
def decL : List (List UInt8 × Nat) := [([], 8), ([1, 0, 0, 1], 8), ([1, 0, 0, 0], 4), ([1, 0, 0, 1, 2, 3], 4), ([0, 0, 0, 1, 2], 4), ([1, 0, 32, 1, 2], 40), ([1, 0, 0, 1, 32], 40), ([1, 0, 0, 32, 2], 40), ([129, 128, 128, 128, 128, 32, 0, 0, 1, 2], 40), ([1, 0, 0, 2, 2, 2], 4), ([129, 0, 0, 0, 1, 2], 0)]
theorem dec_all : decL.all (fun x => (Hd.decV x.1).2 == x.2 && (((Hd.decV x.1).1.gen != 0) == (x.2 == 0))) = true := by decide +kernel
def decCells : Array Value := #[.string ⟨#[]⟩, .int .i64 8, .string ⟨#[1, 0, 0, 1]⟩, .int .i64 8, .string ⟨#[1, 0, 0, 0]⟩, .int .i64 4, .string ⟨#[1, 0, 0, 1, 2, 3]⟩, .int .i64 4, .string ⟨#[0, 0, 0, 1, 2]⟩, .int .i64 4, .string ⟨#[1, 0, 32, 1, 2]⟩, .int .i64 40, .string ⟨#[1, 0, 0, 1, 32]⟩, .int .i64 40, .string ⟨#[1, 0, 0, 32, 2]⟩, .int .i64 40, .string ⟨#[129, 128, 128, 128, 128, 32, 0, 0, 1, 2]⟩, .int .i64 40, .string ⟨#[1, 0, 0, 2, 2, 2]⟩, .int .i64 4, .string ⟨#[129, 0, 0, 0, 1, 2]⟩, .int .i64 0]
theorem dec_cells : ∀ (k : Nat) (x : List UInt8 × Nat), decL[k]? = some x → decCells[k * 2]? = some (.string ⟨x.1.toArray⟩) ∧ decCells[k * 2 + 1]? = some (.int .i64 x.2) := by
  intro k x h
  by_cases hk : k < 11
  · obtain rfl | rfl | rfl | rfl | rfl | rfl | rfl | rfl | rfl | rfl | rfl : k = 0 ∨ k = 1 ∨ k = 2 ∨ k = 3 ∨ k = 4 ∨ k = 5 ∨ k = 6 ∨ k = 7 ∨ k = 8 ∨ k = 9 ∨ k = 10 := by omega
    · obtain rfl := Option.some.inj h; exact ⟨rfl, rfl⟩
    · obtain rfl := Option.some.inj h; exact ⟨rfl, rfl⟩
    · obtain rfl := Option.some.inj h; exact ⟨rfl, rfl⟩
    · obtain rfl := Option.some.inj h; exact ⟨rfl, rfl⟩
    · obtain rfl := Option.some.inj h; exact ⟨rfl, rfl⟩
    · obtain rfl := Option.some.inj h; exact ⟨rfl, rfl⟩
    · obtain rfl := Option.some.inj h; exact ⟨rfl, rfl⟩
    · obtain rfl := Option.some.inj h; exact ⟨rfl, rfl⟩
    · obtain rfl := Option.some.inj h; exact ⟨rfl, rfl⟩
    · obtain rfl := Option.some.inj h; exact ⟨rfl, rfl⟩
    · obtain rfl := Option.some.inj h; exact ⟨rfl, rfl⟩
  · rw [List.getElem?_eq_none (by show 11 ≤ k; omega)] at h
    cases h
theorem Load_nil (w : World) : Calls Tryd.prog 17 #[.pointer none] w fun e w' => e = .returned (.tuple #[HdV.zero.v, .int .i64 0, .bool false, .int .i64 2]) ∧ Below w.heap.size w w' := by
  have HR := Kp.mk (fun W => Read_nil 0 W)
  have hb2 : Below w.heap.size w ((w.alloc (.cells #[.int .i64 0, .int .i64 0, .int .i64 0, .slice none 0 0] 24)).alloc (.cells #[.int .i64 0, .int .i64 0, .int .i64 0, .slice none 0 0, .int .i64 0, .int .i64 0, .int .i64 0, .slice none 0 0] 79)) := ((Below.refl _ _).alloc (Nat.le_refl _) _).alloc (by simp) _
  have hx := heap_first w (.cells #[.int .i64 0, .int .i64 0, .int .i64 0, .slice none 0 0] 24) (.cells #[.int .i64 0, .int .i64 0, .int .i64 0, .slice none 0 0, .int .i64 0, .int .i64 0, .int .i64 0, .slice none 0 0] 79)
  have HB := Kp.mk hb2
  have HX := Kp.mk hx
  clear hb2 hx
  unfold HdV.zero HdV.v
  go_enter Tryd.func17, Tryd.ntmps17
  go_wp2
  generalize (w.alloc (.cells #[.int .i64 0, .int .i64 0, .int .i64 0, .slice none 0 0] 24)).alloc (.cells #[.int .i64 0, .int .i64 0, .int .i64 0, .slice none 0 0, .int .i64 0, .int .i64 0, .int .i64 0, .slice none 0 0] 79) = W at *
  refine wp_loop_rounds 1 ?_
  rw [rounds_succ]
  go_wp2_with fail
  refine (HR.out _).mono ?_
  rintro e w2 ⟨rfl, b⟩
  have hx := (b.block _ (lt_of_block' HX.out)).trans HX.out
  have HB2 := Kp.mk (HB.out.trans (b.mono HB.out.size))
  obtain ⟨m0, m1, m2, m3⟩ := cells4 hx
  obtain ⟨n0, n1, n2, n3⟩ := free4 hx
  clear b hx
  go_wp2
  refine bodyPost_ret (v := .tuple #[.agg #[.int .i64 0, .int .i64 0, .int .i64 0, .slice none 0 0], .int .i64 0, .bool false, .int .i64 2]) (by simp [results, Tryd.results17, go_sem, m0, m1, m2, m3]) rfl ?_
  exact ⟨rfl, set4 HB2.out (Nat.le_refl _) _ _ _ _⟩
set_option maxRecDepth 20000 in
theorem Put_nil (q : HdV) (w : World) : Calls Tryd.prog 16 #[.pointer none, q.v] w fun e w' => e = .returned (.int .i64 2) ∧ Below w.heap.size w w' := by
  obtain ⟨gen, base, snap, lo, ll, lc, lf⟩ := q
  unfold HdV.v
  simp only []
  have HB1 := Kp.mk (((Below.refl w.heap.size w).alloc (Nat.le_refl _) (.cells #[.pointer none] 36)).alloc (by simp) (.cells #[.int .i64 gen, .int .i64 base, .int .i64 snap, .slice lo ll lc] 24))
  have q1 : ∀ o o2, ((w.alloc o).alloc o2).cell? ⟨w.heap.size, 0, none⟩ = (w.alloc o).cell? ⟨w.heap.size, 0, none⟩ := fun o o2 => by rw [World.cell?_alloc_lt _ _ _ (by simp)]
  go_enter Tryd.func16, Tryd.ntmps16
  go_wp2
  go_ret
  exact ⟨rfl, HB1.out⟩
namespace Hd
def smD : DiskV := ⟨fun _ => blank, 13, false, 0, false⟩
theorem put_small : (putV smD (eH 1)).1 = 44 := by
  have ho : otherV smD = 0 := other_none (disk0 13)
  have hm := eH_may (n := 1) (by decide) (by decide)
  have hs : (bytesV (eH 1)).size = 14 := eb_size (n := 1) (by decide)
  have hu : used smD.tp 32 = 0 := by decide +kernel
  unfold putV
  rw [if_neg (by simp [hm]), if_neg (show ¬ smD.down = true by decide), ho]
  generalize bytesV (eH 1) = s at hs ⊢
  have ew : wipeV smD (0 : Nat) = (0, setT smD 0 ⟨⟨#[]⟩, 0⟩) := by
    have : wipeV smD (0 : Nat) = _ := op_eq smD 0 0 _ _ rfl (by decide) rfl
    rw [this]; rfl
  have hu' : used (setT smD 0 ⟨⟨#[]⟩, 0⟩).tp 32 = 0 := by decide +kernel
  rw [ew]
  simp only [ne_eq, not_true_eq_false, if_false]
  have hmay : writeMay (setT smD 0 ⟨⟨#[]⟩, 0⟩) ((setT smD 0 ⟨⟨#[]⟩, 0⟩).tp 0).b s = 44 := by
    unfold writeMay
    rw [hu', hs]
    rfl
  have ed : writeV (setT smD 0 ⟨⟨#[]⟩, 0⟩) (0 : Nat) s = (44, setT smD 0 ⟨⟨#[]⟩, 0⟩) := by
    unfold writeV
    rw [op_ref _ 0 _ _ _ rfl (by decide) (by rw [Int.toNat_natCast, hmay]; decide), Int.toNat_natCast, hmay]
  rw [ed]
  rfl
end Hd
set_option maxRecDepth 100000 in
set_option maxHeartbeats 8000000 in
theorem walkHeadNames (w : World) (ht : Tab w) :
    Calls Tryd.prog 5 #[] w fun e w' => e = .returned (.bool true) ∧ Below w.heap.size w w' := by
  have HAw := Kp.mk (awake_any w ht)
  have HTb := Kp.mk (fun W (hW : Below w.heap.size w W) => ht.below hW)
  clear ht
  go_enter Tryd.func5, Tryd.ntmps5
  go_wp2_with fail
  refine HAw.out.mono ?_
  rintro e w2 ⟨rfl, b⟩
  have HB := Kp.mk b
  have HM0 : Kp (∀ W b0, W.heap[b0]? = some (.cells #[.int .i64 2] 3 (0, 0)) → Calls Tryd.prog 11 #[.agg #[.int .i64 1099511627776, .int .i64 1099511627776, .int .i64 31, .slice (some ⟨b0, 0, none⟩) 1 1]] W fun e w' => e = .returned (.bool true) ∧ Below W.heap.size W w') := ⟨fun W b0 h => by
    have := May_at (w := W) (q := ⟨1099511627776, 1099511627776, 31, some ⟨b0, 0, none⟩, 1, 1, rowF [2]⟩) ⟨(by show 1 + 1 ≤ maxLen; decide), (by show (1 + 1) * 8 ≤ 140737488355328; decide), .inr ⟨_, rfl⟩, row_block (l := [2]) h rfl⟩
    rw [show (HdV.mk 1099511627776 1099511627776 31 (some ⟨b0, 0, none⟩) 1 1 (rowF [2])).hv.may = true from (show Hd.HV.may ⟨1099511627776, 1099511627776, 31, [2]⟩ = true by decide)] at this
    exact this⟩
  have HRow := Kp.mk (heap_alloc_new w2 (.cells #[.int .i64 2] 3))
  have HBa := Kp.mk (HB.out.alloc HB.out.size (.cells #[.int .i64 2] 3))
  clear b
  go_wp2_with fail
  refine (HM0.out _ _ HRow.out).mono ?_
  rintro e w3 ⟨rfl, b⟩
  replace HB := Kp.mk (HBa.out.trans (b.mono HBa.out.size))
  clear b HRow HBa HM0
  go_wp2
  generalize hW4 : ((((((((((((((w3.alloc (.cells #[.int .i64 2] 3)).alloc (.cells #[.int .i64 2] 3)).alloc (.cells #[.int .i64 2] 3)).alloc (.cells #[.int .i64 2] 3)).alloc (.cells #[.int .i64 2] 3)).alloc (.cells #[.int .i64 2] 3)).alloc (.cells #[.int .i64 2] 3)).alloc (.cells #[.int .i64 2] 3)).alloc (.cells #[.int .i64 2] 3)).alloc (.cells #[.int .i64 0] 3)).alloc (.cells #[.int .i64 1] 3)).alloc (.cells #[.int .i64 32] 3)).alloc (.cells #[.int .i64 (-2)] 3)).alloc (.cells #[.int .i64 4, .int .i64 5, .int .i64 4] 3)).alloc (.cells #[.int .i64 0, .int .i64 0, .int .i64 0, .slice none 0 0, .int .i64 1, .int .i64 0, .int .i64 0, .slice none 0 0, .int .i64 0, .int .i64 0, .int .i64 0, .slice (some ⟨w3.heap.size, 0, none⟩) 1 1, .int .i64 1099511627777, .int .i64 0, .int .i64 0, .slice (some ⟨w3.heap.size + 1, 0, none⟩) 1 1, .int .i64 1, .int .i64 1, .int .i64 0, .slice (some ⟨w3.heap.size + 1 + 1, 0, none⟩) 1 1, .int .i64 1, .int .i64 (-1), .int .i64 3, .slice (some ⟨w3.heap.size + 1 + 1 + 1, 0, none⟩) 1 1, .int .i64 1, .int .i64 1099511627777, .int .i64 3, .slice (some ⟨w3.heap.size + 1 + 1 + 1 + 1, 0, none⟩) 1 1, .int .i64 1, .int .i64 0, .int .i64 1, .slice (some ⟨w3.heap.size + 1 + 1 + 1 + 1 + 1, 0, none⟩) 1 1, .int .i64 1, .int .i64 0, .int .i64 32, .slice (some ⟨w3.heap.size + 1 + 1 + 1 + 1 + 1 + 1, 0, none⟩) 1 1, .int .i64 1, .int .i64 0, .int .i64 2, .slice (some ⟨w3.heap.size + 1 + 1 + 1 + 1 + 1 + 1 + 1, 0, none⟩) 1 1, .int .i64 1, .int .i64 0, .int .i64 (-1), .slice (some ⟨w3.heap.size + 1 + 1 + 1 + 1 + 1 + 1 + 1 + 1, 0, none⟩) 1 1, .int .i64 1, .int .i64 0, .int .i64 0, .slice (some ⟨w3.heap.size + 1 + 1 + 1 + 1 + 1 + 1 + 1 + 1 + 1, 0, none⟩) 1 1, .int .i64 1, .int .i64 0, .int .i64 0, .slice (some ⟨w3.heap.size + 1 + 1 + 1 + 1 + 1 + 1 + 1 + 1 + 1 + 1, 0, none⟩) 1 1, .int .i64 1, .int .i64 0, .int .i64 0, .slice (some ⟨w3.heap.size + 1 + 1 + 1 + 1 + 1 + 1 + 1 + 1 + 1 + 1 + 1, 0, none⟩) 1 1, .int .i64 1, .int .i64 0, .int .i64 0, .slice (some ⟨w3.heap.size + 1 + 1 + 1 + 1 + 1 + 1 + 1 + 1 + 1 + 1 + 1 + 1, 0, none⟩) 1 1, .int .i64 1, .int .i64 0, .int .i64 0, .slice (some ⟨w3.heap.size + 1 + 1 + 1 + 1 + 1 + 1 + 1 + 1 + 1 + 1 + 1 + 1 + 1, 0, none⟩) 3 3] 24) = W4
  have hW4' : allocs w3 (badRows ++ [.cells (badCells w3.heap.size) 24 (0, 0)]) = W4 := hW4
  have hr : ∀ (i : Nat) (o : Obj), badRows[i]? = some o → W4.heap[w3.heap.size + i]? = some o := fun i o h => by
    rw [← hW4']
    exact allocs_get _ _ _ _ (by rw [List.getElem?_append_left]; exact h; exact (List.getElem?_eq_some_iff.1 h).1)
  have hbig : W4.heap[w3.heap.size + 1 + 1 + 1 + 1 + 1 + 1 + 1 + 1 + 1 + 1 + 1 + 1 + 1 + 1]? = some (.cells (badCells w3.heap.size) 24 (0, 0)) := by
    rw [← hW4']
    exact allocs_get _ w3 14 _ rfl
  have hb4 := allocs_below (badRows ++ [.cells (badCells w3.heap.size) 24 (0, 0)]) w3
  rw [hW4'] at hb4
  have HB4 := Kp.mk (HB.out.trans (hb4.mono HB.out.size))
  have HAt := Kp.mk (bad_at w3.heap.size W4 hr)
  have HBig := Kp.mk hbig
  clear hW4 hW4' hr hbig hb4 HB
  generalize w3.heap.size = BB at *
  go_loopw [60] (fun iv wr => ∃ k : Nat, k ≤ 16 ∧ iv = .int .i64 k ∧ Below W4.heap.size W4 wr) (fun iv _ => 16 - (intOf iv).toNat)
  case atStart => exact ⟨0, by omega, rfl, Below.refl _ _⟩
  case round =>
    obtain ⟨k, hk16, rfl, hb⟩ := hrel
    have HBr := Kp.mk hb
    clear hb
    by_cases hk : k < 16
    · obtain ⟨q, hq⟩ : ∃ q, (badH BB)[k]? = some q := ⟨_, List.getElem?_eq_getElem (show k < (badH BB).length from hk)⟩
      have hmay : q.hv.may = false := by have := bad_may BB k hk; rw [hq] at this; simpa using this
      obtain ⟨b0, b1, b2, b3⟩ := bad_cells BB k q hq
      have hbg := (HBr.out.block _ (lt_of_block' HBig.out)).trans HBig.out
      have c0 := (cell_of_row wr _ (k * 4) _ _ _ hbg).trans b0
      have c1 := (cell_of_row wr _ (k * 4 + 1) _ _ _ hbg).trans b1
      have c2 := (cell_of_row wr _ (k * 4 + 2) _ _ _ hbg).trans b2
      have c3 := (cell_of_row wr _ (k * 4 + 3) _ _ _ hbg).trans b3
      have HQ := Kp.mk (fun W (hW : Below wr.heap.size wr W) => (HAt.out k q hq).below (HBr.out.trans (hW.mono HBr.out.size)))
      have HEn := Kp.mk (fun W (hW : Below wr.heap.size wr W) => Encode_no q W (HQ.out W hW) hmay)
      have HMy := Kp.mk (fun W (hW : Below wr.heap.size wr W) => May_at (HQ.out W hW))
      have HSz := Kp.mk (fun W (hW : Below wr.heap.size wr W) => HSize_any q W (HQ.out W hW))
      have HPt := Kp.mk (fun W g (hW : Below wr.heap.size wr W) => Put_no g Hd.xD0 q W (HQ.out W hW) hmay)
      rw [hmay] at HMy
      unfold HSize at HSz
      rw [hmay] at HSz
      simp only [Bool.false_eq_true, if_false] at HSz
      have hk0 : (0 : Int) ≤ (k : Int) := by omega
      have hk1 : (k : Int) < 16 := by omega
      clear hq hmay b0 b1 b2 b3 hbg
      obtain ⟨gen, base, snap, lo, ll, lc, lf⟩ := q
      unfold HdV.v at HEn HMy HSz HPt
      simp only [] at HEn HMy HSz HPt c0 c1 c2 c3
      have HX := Kp.mk (heap_alloc_new wr (.cells #[.int .i64 gen, .int .i64 base, .int .i64 snap, .slice lo ll lc] 24))
      have HC := Kp.mk ((Below.refl wr.heap.size wr).alloc (Nat.le_refl _) (.cells #[.int .i64 gen, .int .i64 base, .int .i64 snap, .slice lo ll lc] 24))
      go_wp2_with fail
      generalize wr.alloc (.cells #[.int .i64 gen, .int .i64 base, .int .i64 snap, .slice lo ll lc] 24) = wa at *
      refine (HEn.out _ HC.out).mono ?_
      rintro e wx ⟨rfl, b⟩
      replace HX := Kp.mk ((b.block _ (lt_of_block' HX.out)).trans HX.out)
      replace HC := Kp.mk (HC.out.trans (b.mono HC.out.size))
      clear b c0 c1 c2 c3
      obtain ⟨y0, y1, y2, y3⟩ := cells4 HX.out
      go_wp2_with fail
      refine (New_ok 100 _ (by decide) (by decide)).mono ?_
      rintro e wn ⟨rfl, dn, b⟩
      have HDn : Kp (DiskAt wn wx.heap.size Hd.xD0) := ⟨dn⟩
      replace HX := Kp.mk ((b.block _ (lt_of_block' HX.out)).trans HX.out)
      replace HC := Kp.mk (HC.out.trans (b.mono HC.out.size))
      clear b dn y0 y1 y2 y3
      obtain ⟨y0, y1, y2, y3⟩ := cells4 HX.out
      generalize wx.heap.size = g at HDn ⊢
      go_wp2_with fail
      refine (HMy.out _ HC.out).mono ?_
      rintro e wx ⟨rfl, b⟩
      replace HX := Kp.mk ((b.block _ (lt_of_block' HX.out)).trans HX.out)
      replace HC := Kp.mk (HC.out.trans (b.mono HC.out.size))
      replace HDn := Kp.mk (HDn.out.below b)
      clear b y0 y1 y2 y3
      obtain ⟨y0, y1, y2, y3⟩ := cells4 HX.out
      go_wp2_with fail
      refine (HSz.out _ HC.out).mono ?_
      rintro e wx ⟨rfl, b⟩
      replace HX := Kp.mk ((b.block _ (lt_of_block' HX.out)).trans HX.out)
      replace HC := Kp.mk (HC.out.trans (b.mono HC.out.size))
      replace HDn := Kp.mk (HDn.out.below b)
      clear b y0 y1 y2 y3
      obtain ⟨y0, y1, y2, y3⟩ := cells4 HX.out
      go_wp2_with fail
      refine (HPt.out _ _ HC.out).mono ?_
      rintro e wx ⟨rfl, b⟩
      replace HX := Kp.mk ((b.block _ (lt_of_block' HX.out)).trans HX.out)
      replace HC := Kp.mk (HC.out.trans (b.mono HC.out.size))
      replace HDn := Kp.mk (HDn.out.below b)
      clear b y0 y1 y2 y3
      obtain ⟨y0, y1, y2, y3⟩ := cells4 HX.out
      have HU := Kp.mk (Used_any g Hd.xD0 _ HDn.out Hd.ok_x0.most)
      rw [Hd.used0] at HU
      go_wp2_with fail
      refine HU.out.mono ?_
      rintro e wu ⟨rfl, b⟩
      have HBu := HBr.out.trans (HC.out.mono HBr.out.size)
      have HBv := Kp.mk (HBu.trans (b.mono HBu.size))
      clear b HBu
      go_wp2
      go_roundw
      case rel => exact ⟨k + 1, by omega, by go_num, HBv.out⟩
      case measure => simp [intOf]; omega
    · obtain rfl : k = 16 := by omega
      rw [show ((16 : Nat) : Int) = 16 from rfl]
      have HB5 := Kp.mk (HB4.out.trans (HBr.out.mono HB4.out.size))
      clear HBr HBig HAt HB4
      have HDb : Kp ((wr.alloc (.cells #[.string ⟨#[]⟩, .int .i64 8, .string ⟨#[1, 0, 0, 1]⟩, .int .i64 8, .string ⟨#[1, 0, 0, 0]⟩, .int .i64 4, .string ⟨#[1, 0, 0, 1, 2, 3]⟩, .int .i64 4, .string ⟨#[0, 0, 0, 1, 2]⟩, .int .i64 4, .string ⟨#[1, 0, 32, 1, 2]⟩, .int .i64 40, .string ⟨#[1, 0, 0, 1, 32]⟩, .int .i64 40, .string ⟨#[1, 0, 0, 32, 2]⟩, .int .i64 40, .string ⟨#[129, 128, 128, 128, 128, 32, 0, 0, 1, 2]⟩, .int .i64 40, .string ⟨#[1, 0, 0, 2, 2, 2]⟩, .int .i64 4, .string ⟨#[129, 0, 0, 0, 1, 2]⟩, .int .i64 0] 44)).heap[wr.heap.size]? = some (.cells decCells 44 (0, 0))) := ⟨heap_alloc_new wr _⟩
      have HB6 := Kp.mk (HB5.out.alloc HB5.out.size (.cells #[.string ⟨#[]⟩, .int .i64 8, .string ⟨#[1, 0, 0, 1]⟩, .int .i64 8, .string ⟨#[1, 0, 0, 0]⟩, .int .i64 4, .string ⟨#[1, 0, 0, 1, 2, 3]⟩, .int .i64 4, .string ⟨#[0, 0, 0, 1, 2]⟩, .int .i64 4, .string ⟨#[1, 0, 32, 1, 2]⟩, .int .i64 40, .string ⟨#[1, 0, 0, 1, 32]⟩, .int .i64 40, .string ⟨#[1, 0, 0, 32, 2]⟩, .int .i64 40, .string ⟨#[129, 128, 128, 128, 128, 32, 0, 0, 1, 2]⟩, .int .i64 40, .string ⟨#[1, 0, 0, 2, 2, 2]⟩, .int .i64 4, .string ⟨#[129, 0, 0, 0, 1, 2]⟩, .int .i64 0] 44))
      go_wp2
      generalize wr.alloc (.cells #[.string ⟨#[]⟩, .int .i64 8, .string ⟨#[1, 0, 0, 1]⟩, .int .i64 8, .string ⟨#[1, 0, 0, 0]⟩, .int .i64 4, .string ⟨#[1, 0, 0, 1, 2, 3]⟩, .int .i64 4, .string ⟨#[0, 0, 0, 1, 2]⟩, .int .i64 4, .string ⟨#[1, 0, 32, 1, 2]⟩, .int .i64 40, .string ⟨#[1, 0, 0, 1, 32]⟩, .int .i64 40, .string ⟨#[1, 0, 0, 32, 2]⟩, .int .i64 40, .string ⟨#[129, 128, 128, 128, 128, 32, 0, 0, 1, 2]⟩, .int .i64 40, .string ⟨#[1, 0, 0, 2, 2, 2]⟩, .int .i64 4, .string ⟨#[129, 0, 0, 0, 1, 2]⟩, .int .i64 0] 44) = W5 at *
      generalize wr.heap.size = bd at HDb ⊢
      go_loopw [117] (fun iv wr => ∃ k : Nat, k ≤ 11 ∧ iv = .int .i64 k ∧ Below W5.heap.size W5 wr) (fun iv _ => 11 - (intOf iv).toNat)
      case atStart => exact ⟨0, by omega, rfl, Below.refl _ _⟩
      case round =>
        obtain ⟨k, hk11, rfl, hb⟩ := hrel
        have HBr := Kp.mk hb
        clear hb
        by_cases hk : k < 11
        · obtain ⟨x, hx⟩ : ∃ x, decL[k]? = some x := ⟨_, List.getElem?_eq_getElem (show k < decL.length from hk)⟩
          obtain ⟨b0, b1⟩ := dec_cells k x hx
          have hxa := List.all_eq_true.1 dec_all x (List.mem_of_getElem? hx)
          rw [Bool.and_eq_true, beq_iff_eq] at hxa
          obtain ⟨hx1, hx2⟩ := hxa
          have hsz : x.1.length ≤ 1000 := by
            have := List.all_eq_true.1 (show decL.all (fun x => decide (x.1.length ≤ 1000)) = true by decide) x (List.mem_of_getElem? hx)
            simpa using this
          have hbg := (HBr.out.block _ (lt_of_block' HDb.out)).trans HDb.out
          have c0 := (cell_of_row wr _ (k * 2) _ _ _ hbg).trans b0
          have c1 := (cell_of_row wr _ (k * 2 + 1) _ _ _ hbg).trans b1
          obtain ⟨l, ec⟩ := x
          simp only [] at hx1 hx2 hsz c0 c1
          have HDe := Kp.mk (fun W => Decode_any (B l) W (by rw [B_size]; omega))
          rw [B_list, hx1] at HDe
          generalize (Hd.decV l).1 = hv at HDe hx2
          change _ = some (Value.string (B l)) at c0
          generalize B l = s at HDe c0
          have t1 : ((hv.gen != 0) != ((ec : Int) == 0)) = false := by
            have e : ((ec : Int) == 0) = (ec == 0) := by rw [Bool.eq_iff_iff, beq_iff_eq, beq_iff_eq]; omega
            rw [e]
            rw [beq_iff_eq] at hx2
            rw [hx2]
            simp
          have hk0 : (0 : Int) ≤ (k : Int) := by omega
          have hk1 : (k : Int) < 11 := by omega
          have HBx := Kp.mk (HBr.out.alloc HBr.out.size (.cells #[.string s, .int .i64 ec] 44))
          have HXx := Kp.mk (heap_alloc_new wr (.cells #[.string s, .int .i64 ec] 44))
          clear hx b0 b1 hx1 hx2 hsz hbg
          go_wp2_with fail
          generalize wr.alloc (.cells #[.string s, .int .i64 ec] 44) = wa at *
          refine (HDe.out _).mono ?_
          rintro e w6 ⟨⟨ga, ba, sa, loa, lla, lca, lfa⟩, rfl, hqa, -, b⟩
          unfold HdV.v
          simp only []
          have hga : hv.gen = ga := by rw [← hqa]; rfl
          rw [hga] at t1
          have t2 : (!((ga != 0) == ((ec : Int) == 0))) = false := t1
          have t3 : ((ga != 0) == ((ec : Int) == 0)) = true := by simpa using t2
          have hx6 := (b.block _ (lt_of_block' HXx.out)).trans HXx.out
          have hlt := lt_of_block' hx6
          have y0 := cell_of_row w6 _ 0 _ _ _ hx6
          have y1 := cell_of_row w6 _ 1 _ _ _ hx6
          change _ = some (Value.string s) at y0
          change _ = some (Value.int .i64 ec) at y1
          have HB7 := Kp.mk ((HBx.out.trans (b.mono HBx.out.size)).alloc (Nat.le_trans HBx.out.size b.size) (.cells #[.int .i64 ga, .int .i64 ba, .int .i64 sa, .slice loa lla lca] 24))
          clear b hqa hga hx6 c0 c1
          go_wp2
          go_roundw
          case rel => exact ⟨k + 1, by omega, by go_num, HB7.out⟩
          case measure => simp [intOf]; omega
        · obtain rfl : k = 11 := by omega
          rw [show ((11 : Nat) : Int) = 11 from rfl]
          have HB8 := Kp.mk (HB6.out.trans (HBr.out.mono HB6.out.size))
          clear HBr HDb HB6
          have HS0 : Kp (OneS wr ((wr.alloc (.cells #[.int .i64 2] 3)).alloc (.cells #[.int .i64 1, .int .i64 0, .int .i64 0, .slice (some ⟨wr.heap.size, 0, none⟩) 1 1] 24)) wr.heap.size 1) := ⟨⟨heap_first wr _ _, heap_second wr _ _, ((Below.refl _ _).alloc (Nat.le_refl _) _).alloc (by simp) _⟩⟩
          have hzz := HB8.out.size
          have HW : Kp (∀ W, Below wr.heap.size wr W → Below w.heap.size w W) := ⟨fun W hW => HB8.out.trans (hW.mono hzz)⟩
          go_wp2_with fail
          generalize (wr.alloc (.cells #[.int .i64 2] 3)).alloc (.cells #[.int .i64 1, .int .i64 0, .int .i64 0, .slice (some ⟨wr.heap.size, 0, none⟩) 1 1] 24) = w9 at *
          refine (Load_nil _).mono ?_
          rintro e w10 ⟨rfl, b⟩
          have HS := Kp.mk (HS0.out.next b)
          clear b HS0 HB8 hzz
          unfold HdV.zero HdV.v
          simp only []
          generalize hbb : wr.heap.size = bb at *
          have HSa : Kp (∀ o, OneS wr (w10.alloc o) bb 1) := ⟨fun o => HS.out.next ((Below.refl _ _).alloc (Nat.le_refl _) _)⟩
          go_wp2_with fail
          generalize hwb : w10.alloc (.cells #[.int .i64 0, .int .i64 0, .int .i64 0, .slice none 0 0] 24) = w11 at *
          replace HS : Kp (OneS wr w11 bb 1) := ⟨by rw [← hwb]; exact HSa.out _⟩
          clear HSa hwb
          refine (New_ok 13 _ (by decide) (by decide)).mono ?_
          rintro e w12 ⟨rfl, d, b⟩
          have HG : Kp (bb + 1 < w11.heap.size) := ⟨HS.out.lt⟩
          have HD : Kp (DiskAt w12 w11.heap.size Hd.smD) := ⟨d⟩
          replace HS := Kp.mk (HS.out.next b)
          clear b d
          generalize w11.heap.size = g at HG HD ⊢
          have HOf := Kp.mk (Of_any ⟨#[]⟩ w12 (by decide) (HTb.out _ (HW.out _ HS.out.below)))
          rw [show (⟨#[]⟩ : ByteArray).data.toList = [] from rfl, Hd.ofV_nil] at HOf
          simp only [] at HOf
          go_wp2_with fail
          refine HOf.out.mono ?_
          rintro e w13 ⟨⟨ga, ba, sa, loa, lla, lca, lfa⟩, rfl, -, -, b⟩
          unfold HdV.v
          simp only []
          replace HS := Kp.mk ((HS.out.next b).next ((Below.refl _ _).alloc (Nat.le_refl _) (.cells #[.int .i64 ga, .int .i64 ba, .int .i64 sa, .slice loa lla lca] 24)))
          replace HD := Kp.mk ((HD.out.below b).alloc (.cells #[.int .i64 ga, .int .i64 ba, .int .i64 sa, .slice loa lla lca] 24))
          clear b HOf
          generalize hwc : w13.alloc (.cells #[.int .i64 ga, .int .i64 ba, .int .i64 sa, .slice loa lla lca] 24) = w14 at *
          have HPn := Kp.mk (fun W => Put_nil (oneQ bb 1) W)
          have HPz := Kp.mk (fun W => Put_nil HdV.zero W)
          have HPs := Kp.mk (fun W (h1 : DiskAt W g Hd.smD) (h2 : OneS wr W bb 1) => HPut_any g Hd.smD (oneQ bb 1) W h1 (Hd.ok_new (by decide) (by decide)) (HTb.out _ (HW.out _ h2.below)) h2.at')
          rw [oneQ_hv, Hd.put_small] at HPs
          have HU0 := Kp.mk (fun W (h2 : OneS wr W bb 1) => Uses_any (oneQ bb 1) 0 W (by show 1 ≤ maxLen; decide) h2.at'.row)
          have HU2 := Kp.mk (fun W (h2 : OneS wr W bb 1) => Uses_any (oneQ bb 1) 2 W (by show 1 ≤ maxLen; decide) h2.at'.row)
          rw [oneQ_hv, show (Hd.eH 1).uses 0 = false by decide] at HU0
          rw [oneQ_hv, show (Hd.eH 1).uses 2 = true by decide] at HU2
          have HFr := Kp.mk (fun W => Free_any HdV.zero W (by decide) (fun W' _ j hj => absurd hj (Nat.not_lt_zero j)))
          unfold oneQ HdV.v at HPn HPs HU0 HU2
          unfold HdV.zero HdV.v at HPz HFr
          simp only [] at HPn HPs HU0 HU2 HPz HFr
          obtain ⟨y0, y1, y2, y3⟩ := cells4 HS.out.one
          go_wp2_with fail
          refine (HPn.out _).mono ?_
          rintro e wz ⟨rfl, b⟩
          replace HS := Kp.mk (HS.out.next b)
          replace HD := Kp.mk (HD.out.below b)
          clear b y0 y1 y2 y3
          obtain ⟨y0, y1, y2, y3⟩ := cells4 HS.out.one
          go_wp2_with fail
          refine (HPz.out _).mono ?_
          rintro e wz ⟨rfl, b⟩
          replace HS := Kp.mk (HS.out.next b)
          replace HD := Kp.mk (HD.out.below b)
          clear b y0 y1 y2 y3
          obtain ⟨y0, y1, y2, y3⟩ := cells4 HS.out.one
          go_wp2_with fail
          refine (HPs.out _ HD.out HS.out).mono ?_
          rintro e wz ⟨rfl, -, k5⟩
          replace HS := Kp.mk (HS.out.chg k5 HG.out)
          clear k5 y0 y1 y2 y3 HD
          obtain ⟨y0, y1, y2, y3⟩ := cells4 HS.out.one
          go_wp2_with fail
          refine (HU0.out _ HS.out).mono ?_
          rintro e wz ⟨rfl, b⟩
          replace HS := Kp.mk (HS.out.next b)
          clear b y0 y1 y2 y3
          obtain ⟨y0, y1, y2, y3⟩ := cells4 HS.out.one
          go_wp2_with fail
          refine (HU2.out _ HS.out).mono ?_
          rintro e wz ⟨rfl, b⟩
          replace HS := Kp.mk (HS.out.next b)
          clear b y0 y1 y2 y3
          go_wp2_with fail
          refine (HFr.out _).mono ?_
          rintro e wf ⟨af, nf, cf, gf, rfl, hg, -, b⟩
          have hn : nf = 30 := by
            have := congrArg List.length hg
            rw [rowI_len] at this
            rw [this]
            show (HdV.hv ⟨0, 0, 0, none, 0, 0, fun _ => 0⟩).free.length = 30
            decide
          subst hn
          have HBf := Kp.mk (HW.out _ (HS.out.next b).below)
          clear b hg
          go_wp2
          go_ret
          exact ⟨by trivial, HBf.out⟩
end Go.Proofs.YtjpkncfmionieaaDoor
