/-
  How slices of integers lie in memory, and the laws on make and append in these words.
-/
import Derived.Test.YtdjdagcgodpgdaaGreatRows
import Derived.Test.YtdjdagcgodpgdaaGreatDrawn
import Derived.WalkKit
import Derived.WalkSpells
import Derived.WalkLawsBesides
import Derived.Deep.LoopGhost
import Derived.Lib.Hide
import Derived.Deep.QuietTactic
import Derived.BigQuiet
set_option linter.unusedVariables false
namespace Go.Proofs.YtdjdagcgodpgdaaGreat
open Go.RowKit

/-! ### slices that are read -/

/-- The value v is a slice of one-cell elements that holds xs. -/
def RowAt (w : World) (v : Value) (xs : List Value) : Prop :=
  ∃ ao cap, v = .slice ao xs.length cap ∧ xs.length ≤ cap ∧ cap ≤ maxLen ∧ (ao = none → cap = 0) ∧ ∀ k x, xs[k]? = some x → ∃ b off, ao = some ⟨b, off, none⟩ ∧ w.cell? ⟨b, off + k, none⟩ = some x

def ints (xs : List Int) : List Value := xs.map (Value.int .i64)
theorem ints_len (xs : List Int) : (ints xs).length = xs.length := by simp [ints]
theorem ints_get {xs : List Int} {k : Nat} : (ints xs)[k]? = (xs[k]?).map (Value.int .i64) := by simp [ints]
theorem ints_inj : ∀ {xs ys : List Int}, ints xs = ints ys → xs = ys
  | [], [], _ => rfl
  | [], _ :: _, h => by simp [ints] at h
  | _ :: _, [], h => by simp [ints] at h
  | x :: xs, y :: ys, h => by
    simp only [ints, List.map_cons, List.cons.injEq, Value.int.injEq, true_and] at h
    rw [h.1, ints_inj (xs := xs) (ys := ys) h.2]

def IntsAt (w : World) (v : Value) (xs : List Int) : Prop := RowAt w v (ints xs)

theorem RowAt.same {w w' : World} {v : Value} {xs : List Value} (h : RowAt w v xs) (hw : ∀ a x, w.cell? a = some x → w'.cell? a = some x) : RowAt w' v xs := by
  obtain ⟨ao, cap, e1, e2, e3, e0, e4⟩ := h
  refine ⟨ao, cap, e1, e2, e3, e0, fun k x hk => ?_⟩
  obtain ⟨b, off, h1, h2⟩ := e4 k x hk
  exact ⟨b, off, h1, hw _ _ h2⟩
theorem below_cells {w w' : World} (hb : Below w.heap.size w w') : ∀ a x, w.cell? a = some x → w'.cell? a = some x := fun a x h => by
  rw [hb.cell (World.block_lt_of_cell? w a h)]; exact h
theorem RowAt.below {w w' : World} {v : Value} {xs : List Value} (h : RowAt w v xs) (hb : Below w.heap.size w w') : RowAt w' v xs := h.same (below_cells hb)
theorem RowAt.drewN {w : World} {v : Value} {xs : List Value} (h : RowAt w v xs) (m : Nat) : RowAt (w.drewN m) v xs := h
theorem IntsAt.below {w w' : World} {v : Value} {xs : List Int} (h : IntsAt w v xs) (hb : Below w.heap.size w w') : IntsAt w' v xs := RowAt.below h hb
theorem IntsAt.same {w w' : World} {v : Value} {xs : List Int} (h : IntsAt w v xs) (hw : ∀ a x, w.cell? a = some x → w'.cell? a = some x) : IntsAt w' v xs := RowAt.same h hw
theorem RowAt.drawn {w w' : World} {v : Value} {xs : List Value} (h : RowAt w v xs) (hw : Drawn w w') : RowAt w' v xs := h.same hw.cells
theorem IntsAt.drawn {w w' : World} {v : Value} {xs : List Int} (h : IntsAt w v xs) (hw : Drawn w w') : IntsAt w' v xs := RowAt.drawn h hw
/-- The shape of the value. -/
theorem IntsAt.form {w : World} {v : Value} {xs : List Int} (h : IntsAt w v xs) : ∃ ao cap, v = .slice ao xs.length cap ∧ (xs.length : Int) ≤ 9223372036854775807 ∧ xs.length ≤ cap ∧ (cap : Int) ≤ 9223372036854775807 := by
  obtain ⟨ao, cap, e1, e2, e3, e0, e4⟩ := h
  rw [ints_len] at e1 e2
  unfold maxLen at e3
  exact ⟨ao, cap, e1, by omega, e2, by omega⟩
theorem RowAt.form {w : World} {v : Value} {xs : List Value} (h : RowAt w v xs) : ∃ ao cap, v = .slice ao xs.length cap ∧ (xs.length : Int) ≤ 9223372036854775807 ∧ xs.length ≤ cap ∧ (cap : Int) ≤ 9223372036854775807 := by
  obtain ⟨ao, cap, e1, e2, e3, e0, e4⟩ := h
  unfold maxLen at e3
  exact ⟨ao, cap, e1, by omega, e2, by omega⟩
/-- The cell at k. -/
theorem IntsAt.cell {w : World} {ao : Option Addr} {n cap : Nat} {xs : List Int} (h : IntsAt w (.slice ao n cap) xs) {k : Nat} (hk : k < xs.length) :
    ∃ b off x, ao = some ⟨b, off, none⟩ ∧ Hid (xs[k]? = some x) ∧ w.cell? ⟨b, off + k, none⟩ = some (.int .i64 x) := by
  obtain ⟨ao', cap', e1, e2, e3, e0, e4⟩ := h
  simp only [Value.slice.injEq] at e1
  obtain ⟨rfl, _, rfl⟩ := e1
  obtain ⟨b, off, h1, h2⟩ := e4 k (.int .i64 xs[k]) (by rw [ints_get, List.getElem?_eq_getElem hk]; rfl)
  exact ⟨b, off, xs[k], h1, Lib.hid (List.getElem?_eq_getElem hk), h2⟩
theorem RowAt.cell {w : World} {ao : Option Addr} {n cap : Nat} {xs : List Value} (h : RowAt w (.slice ao n cap) xs) {k : Nat} (hk : k < xs.length) :
    ∃ b off x, ao = some ⟨b, off, none⟩ ∧ Hid (xs[k]? = some x) ∧ w.cell? ⟨b, off + k, none⟩ = some x := by
  obtain ⟨ao', cap', e1, e2, e3, e0, e4⟩ := h
  simp only [Value.slice.injEq] at e1
  obtain ⟨rfl, _, rfl⟩ := e1
  obtain ⟨b, off, h1, h2⟩ := e4 k xs[k] (List.getElem?_eq_getElem hk)
  exact ⟨b, off, xs[k], h1, Lib.hid (List.getElem?_eq_getElem hk), h2⟩
theorem IntsAt.len {w : World} {ao : Option Addr} {n cap : Nat} {xs : List Int} (h : IntsAt w (.slice ao n cap) xs) : n = xs.length := by
  obtain ⟨ao', cap', e1, e2, e3, e0, e4⟩ := h
  simp only [Value.slice.injEq, ints_len] at e1
  exact e1.2.1

/-- 's[k:]'. -/
theorem RowAt.tail {w : World} {ao : Option Addr} {n cap : Nat} {xs : List Value} (h : RowAt w (.slice ao n cap) xs) {k : Nat} (hk : k ≤ xs.length) :
    RowAt w (.slice (if cap = k then ao else Option.map (fun x => x.add k) ao) (n - k) (cap - k)) (xs.drop k) := by
  obtain ⟨ao', cap', e1, e2, e3, e0, e4⟩ := h
  simp only [Value.slice.injEq] at e1
  obtain ⟨rfl, rfl, rfl⟩ := e1
  refine ⟨_, _, by rw [List.length_drop], by rw [List.length_drop]; omega, by omega, ?_, fun j x hj => ?_⟩
  · intro hn
    split at hn
    · omega
    · cases ao with
      | none => have := e0 rfl; omega
      | some a => simp at hn
  · rw [List.getElem?_drop] at hj
    obtain ⟨b, off, h1, h2⟩ := e4 (k + j) x hj
    have hlt : k + j < xs.length := (List.getElem?_eq_some_iff.1 hj).1
    rw [if_neg (by omega)]
    subst h1
    refine ⟨b, off + k, ?_, ?_⟩
    · simp only [Option.map_some, Option.some.injEq, Addr.add]
      split
      · simp_all
      · rfl
    · rw [Nat.add_assoc]; exact h2
/-- 's[:k]'. -/
theorem RowAt.upto {w : World} {ao : Option Addr} {n cap : Nat} {xs : List Value} (h : RowAt w (.slice ao n cap) xs) {k : Nat} (hk : k ≤ xs.length) :
    RowAt w (.slice ao k cap) (xs.take k) := by
  obtain ⟨ao', cap', e1, e2, e3, e0, e4⟩ := h
  simp only [Value.slice.injEq] at e1
  obtain ⟨rfl, rfl, rfl⟩ := e1
  refine ⟨_, _, by rw [List.length_take, Nat.min_eq_left hk], by rw [List.length_take]; omega, by omega, e0, fun j x hj => ?_⟩
  rw [List.getElem?_take] at hj
  split at hj
  · exact e4 j x hj
  · cases hj
theorem ints_drop (xs : List Int) (k : Nat) : ints (xs.drop k) = (ints xs).drop k := by simp [ints, List.map_drop]
theorem ints_take (xs : List Int) (k : Nat) : ints (xs.take k) = (ints xs).take k := by simp [ints, List.map_take]
theorem IntsAt.tail {w : World} {ao : Option Addr} {n cap : Nat} {xs : List Int} (h : IntsAt w (.slice ao n cap) xs) {k : Nat} (hk : k ≤ xs.length) :
    IntsAt w (.slice (if cap = k then ao else Option.map (fun x => x.add k) ao) (n - k) (cap - k)) (xs.drop k) := by
  unfold IntsAt; rw [ints_drop]; exact RowAt.tail h (by rw [ints_len]; exact hk)
theorem IntsAt.upto {w : World} {ao : Option Addr} {n cap : Nat} {xs : List Int} (h : IntsAt w (.slice ao n cap) xs) {k : Nat} (hk : k ≤ xs.length) :
    IntsAt w (.slice ao k cap) (xs.take k) := by
  unfold IntsAt; rw [ints_take]; exact RowAt.upto h (by rw [ints_len]; exact hk)
/-- A row that is nil, or lies at an address. -/
theorem RowAt.addr {w : World} {ao : Option Addr} {n cap : Nat} {xs : List Value} (h : RowAt w (.slice ao n cap) xs) :
    (ao = none ∧ n = 0 ∧ cap = 0 ∧ xs = []) ∨ (∃ a, ao = some a ∧ n = xs.length ∧ ∀ j u, xs[j]? = some u → w.cell? (a.add j) = some u) := by
  obtain ⟨ao', cap', e1, e2, e3, e0, e4⟩ := h
  simp only [Value.slice.injEq] at e1
  obtain ⟨rfl, rfl, rfl⟩ := e1
  cases ao with
  | none =>
    have hc := e0 rfl
    exact .inl ⟨rfl, by omega, hc, List.eq_nil_of_length_eq_zero (by omega)⟩
  | some a =>
    refine .inr ⟨a, rfl, rfl, fun j u hj => ?_⟩
    obtain ⟨b, off, h1, h2⟩ := e4 j u hj
    cases h1
    have e : (⟨b, off, none⟩ : Addr).add j = ⟨b, off + j, none⟩ := by unfold Addr.add; split <;> simp_all
    rw [e]; exact h2

/-! ### slices that the call owns -/

/-- v is a slice of the call's own, of elements of type T with one cell each, in a block from B on; it holds xs. -/
def Own (w : World) (B : Nat) (T : TypeId) (v : Value) (xs : List Value) : Prop := w.ownsRow B T 1 v xs.length xs
def OwnInts (w : World) (B : Nat) (v : Value) (xs : List Int) : Prop := Own w B 3 v (ints xs)

theorem Own.kept {w w' : World} {B : Nat} {T : TypeId} {v : Value} {xs : List Value} (h : Own w B T v xs) (hw : ∀ k, v.ownBlock = some k → w'.heap[k]? = w.heap[k]?) : Own w' B T v xs := by
  obtain ⟨h1, h2⟩ := h
  refine ⟨h1, ?_⟩
  rcases h2 with hn | ⟨g, cap, cur, rfl, hb, hgg, rest⟩
  · exact .inl hn
  · exact .inr ⟨g, cap, cur, rfl, hb, by rw [hw g rfl]; exact hgg, rest⟩
theorem Own.lt {w : World} {B : Nat} {T : TypeId} {v : Value} {xs : List Value} (h : Own w B T v xs) {k : Nat} (hk : v.ownBlock = some k) : B ≤ k ∧ k < w.heap.size := World.ownsRow.lt h k hk
theorem Own.below {w w' : World} {B : Nat} {T : TypeId} {v : Value} {xs : List Value} (h : Own w B T v xs) (hb : Below w.heap.size w w') : Own w' B T v xs :=
  h.kept fun k hk => hb.block k (h.lt hk).2
theorem Own.grown {w w' : World} {B : Nat} {T : TypeId} {v : Value} {xs : List Value} {row : Option Nat} (h : Own w B T v xs) (hg : w.grownBy w' row) (hne : v.ownBlock = none ∨ v.ownBlock ≠ row) : Own w' B T v xs :=
  h.kept fun k hk => hg.block k (h.lt hk).2 (by
    rw [hk] at hne
    rcases hne with h | h
    · cases h
    · exact h)
theorem Own.mono {w : World} {B B' : Nat} {T : TypeId} {v : Value} {xs : List Value} (h : Own w B T v xs) (hB : B' ≤ B) : Own w B' T v xs := by
  obtain ⟨h1, h2⟩ := h
  refine ⟨h1, ?_⟩
  rcases h2 with hn | ⟨g, cap, cur, rfl, hb, rest⟩
  · exact .inl hn
  · exact .inr ⟨g, cap, cur, rfl, by omega, rest⟩
theorem Own.drewN {w : World} {B : Nat} {T : TypeId} {v : Value} {xs : List Value} (h : Own w B T v xs) (m : Nat) : Own (w.drewN m) B T v xs := h
theorem Own.drawn {w w' : World} {B : Nat} {T : TypeId} {v : Value} {xs : List Value} (h : Own w B T v xs) (hw : Drawn w w') : Own w' B T v xs := h.kept fun k _ => by rw [hw.heap]
theorem Own.nil (w : World) (B : Nat) (T : TypeId) : Own w B T (.slice none 0 0) [] := World.ownsRow_nil w B T 1
/-- The shape of the value. -/
theorem Own.form {w : World} {B : Nat} {T : TypeId} {v : Value} {xs : List Value} (h : Own w B T v xs) :
    ∃ ao cap, v = .slice ao xs.length cap ∧ (xs.length : Int) ≤ 9223372036854775807 ∧ xs.length ≤ cap ∧ (cap : Int) ≤ 9223372036854775807 := by
  rcases h.2 with ⟨rfl, hn⟩ | ⟨g, cap, cur, rfl, hb, hgg, h1, h2, h3, h4⟩
  · exact ⟨none, 0, by rw [hn], by omega, by omega, by omega⟩
  · unfold maxLen at h2
    exact ⟨_, cap, rfl, by omega, h1, by omega⟩
theorem Own.row {w : World} {B : Nat} {T : TypeId} {v : Value} {xs : List Value} (h : Own w B T v xs) : RowAt w v xs := by
  rcases h.2 with ⟨rfl, hn⟩ | ⟨g, cap, cur, rfl, hb, hgg, h1, h2, h3, h4⟩
  · obtain rfl : xs = [] := List.eq_nil_of_length_eq_zero hn
    exact ⟨none, 0, rfl, Nat.le_refl _, by unfold maxLen; omega, fun _ => rfl, fun k x hk => by simp at hk⟩
  · refine ⟨some ⟨g, 0, none⟩, cap, rfl, h1, h2, (fun h => by cases h), fun k x hk => ⟨g, 0, rfl, ?_⟩⟩
    rw [Nat.zero_add, World.ownsRow.cellAt h k (by have := (List.getElem?_eq_some_iff.1 hk).1; omega)]
    exact hk
theorem OwnInts.at {w : World} {B : Nat} {v : Value} {xs : List Int} (h : OwnInts w B v xs) : IntsAt w v xs := Own.row h
theorem OwnInts.below {w w' : World} {B : Nat} {v : Value} {xs : List Int} (h : OwnInts w B v xs) (hb : Below w.heap.size w w') : OwnInts w' B v xs := Own.below h hb
theorem OwnInts.drawn {w w' : World} {B : Nat} {v : Value} {xs : List Int} (h : OwnInts w B v xs) (hd : Drawn w w') : OwnInts w' B v xs := Own.drawn h hd
theorem OwnInts.lt {w : World} {B : Nat} {v : Value} {xs : List Int} (h : OwnInts w B v xs) {k : Nat} (hk : v.ownBlock = some k) : B ≤ k ∧ k < w.heap.size := Own.lt h hk
theorem OwnInts.mono {w : World} {B B' : Nat} {v : Value} {xs : List Int} (h : OwnInts w B v xs) (hB : B' ≤ B) : OwnInts w B' v xs := Own.mono h hB
/-- The head of a slice of at least one element. -/
theorem Own.head {w : World} {B : Nat} {T : TypeId} {ao : Option Addr} {n cap : Nat} {xs : List Value} (h : Own w B T (.slice ao n cap) xs) (hn : 0 < xs.length) :
    ∃ g, ao = some ⟨g, 0, none⟩ ∧ B ≤ g ∧ g < w.heap.size := by
  rcases h.2 with ⟨he, hn'⟩ | ⟨g, cap', cur, he, hb, hgg, h1, h2, h3, h4⟩
  · omega
  · simp only [Value.slice.injEq] at he
    exact ⟨g, he.1, hb, (Array.getElem?_eq_some_iff.1 hgg).1⟩
theorem Own.len {w : World} {B : Nat} {T : TypeId} {ao : Option Addr} {n cap : Nat} {xs : List Value} (h : Own w B T (.slice ao n cap) xs) : n = xs.length := by
  obtain ⟨_, _, e, _⟩ := h.form
  simp only [Value.slice.injEq] at e
  exact e.2.1
theorem Own.frozen {w : World} {B : Nat} {T : TypeId} {g n cap : Nat} {xs : List Value} (h : Own w B T (.slice (some ⟨g, 0, none⟩) n cap) xs) (k : Nat) : w.frozen? ⟨g, k, none⟩ = false := by
  obtain rfl := h.len
  exact World.ownsRow.frozenAt h k
theorem Own.cell {w : World} {B : Nat} {T : TypeId} {g n cap : Nat} {xs : List Value} (h : Own w B T (.slice (some ⟨g, 0, none⟩) n cap) xs) {k : Nat} {x : Value} (hk : xs[k]? = some x) : w.cell? ⟨g, k, none⟩ = some x := by
  obtain rfl := h.len
  rw [World.ownsRow.cellAt h k (by have := (List.getElem?_eq_some_iff.1 hk).1; omega)]
  exact hk
/-- A store into it. -/
theorem Own.set {w : World} {B : Nat} {T : TypeId} {g n cap : Nat} {xs : List Value} (h : Own w B T (.slice (some ⟨g, 0, none⟩) n cap) xs) (k : Nat) (u : Value) :
    Own (w.setCell ⟨g, k, none⟩ u) B T (.slice (some ⟨g, 0, none⟩) n cap) (xs.set k u) := by
  obtain rfl := h.len
  have := World.ownsRow.stored h k u
  unfold Own
  rw [List.length_set]
  exact this.1
/-- A store elsewhere. -/
theorem Own.setOther {w : World} {B : Nat} {T : TypeId} {v : Value} {xs : List Value} (h : Own w B T v xs) {a : Addr} (u : Value) (hne : v.ownBlock ≠ some a.block) : Own (w.setCell a u) B T v xs :=
  h.kept fun k hk => Below.heap_setCell _ _ _ _ (fun e => hne (by rw [hk, e]))
theorem below_drewN {B : Nat} {a w : World} (h : Below B a w) (n : Nat) : Below B a (w.drewN n) := h.trans ⟨rfl, rfl, rfl, Nat.le_refl _, fun _ _ => rfl⟩
theorem below_of_grown {w w' : World} {row : Option Nat} {B : Nat} (h : w.grownBy w' row) (hB : B ≤ w.heap.size) (hr : ∀ k, row = some k → B ≤ k) : Below B w w' :=
  (Below.refl B w).grown h hB hr
/-- Two steps: what lay at the first's beginning. -/
theorem below_trans {a b c : World} (h : Below a.heap.size a b) (k : Below b.heap.size b c) : Below a.heap.size a c := h.trans (k.mono h.size)

theorem ints_set (xs : List Int) (k : Nat) (x : Int) : ints (xs.set k x) = (ints xs).set k (.int .i64 x) := by simp [ints, List.map_set]
theorem OwnInts.set {w : World} {B : Nat} {g n cap : Nat} {xs : List Int} (h : OwnInts w B (.slice (some ⟨g, 0, none⟩) n cap) xs) (k : Nat) (x : Int) :
    OwnInts (w.setCell ⟨g, k, none⟩ (.int .i64 x)) B (.slice (some ⟨g, 0, none⟩) n cap) (xs.set k x) := by
  unfold OwnInts; rw [ints_set]; exact Own.set h k _
theorem OwnInts.cell {w : World} {B : Nat} {g n cap : Nat} {xs : List Int} (h : OwnInts w B (.slice (some ⟨g, 0, none⟩) n cap) xs) {k : Nat} (hk : k < xs.length) : ∃ x, Hid (xs[k]? = some x) ∧ w.cell? ⟨g, k, none⟩ = some (.int .i64 x) :=
  ⟨xs[k], Lib.hid (List.getElem?_eq_getElem hk), Own.cell h (by rw [ints_get, List.getElem?_eq_getElem hk]; rfl)⟩
/-- A row that is filled from its head on. -/
theorem fill_step {α : Type} {xs : List α} {n j : Nat} {x z : α} (hj : j < n) (hx : xs[j]? = some x) :
    (xs.take j ++ List.replicate (n - j) z).set j x = xs.take (j + 1) ++ List.replicate (n - (j + 1)) z := by
  have hjl : j < xs.length := (List.getElem?_eq_some_iff.1 hx).1
  have hl : (xs.take j).length = j := by rw [List.length_take]; omega
  rw [List.set_append_right _ _ (by omega), hl, Nat.sub_self, show n - j = (n - (j + 1)) + 1 from by omega, List.replicate_succ, List.set_cons_zero, List.take_add_one, hx]
  simp
theorem fill_end {α : Type} {xs : List α} {n j : Nat} {z : α} (hj : n ≤ j) (hx : xs.length ≤ j) : xs.take j ++ List.replicate (n - j) z = xs := by
  rw [List.take_of_length_le hx, show n - j = 0 from by omega]; simp

theorem grown_trans {a b c : World} {row : Option Nat} (h : a.grownBy b row) (k : b.grownBy c row) : a.grownBy c row :=
  ⟨k.os.trans h.os, k.tape.trans h.tape, k.output.trans h.output, Nat.le_trans h.size k.size, fun i hi hr => (k.block i (Nat.lt_of_lt_of_le hi h.size) hr).trans (h.block i hi hr)⟩
theorem grown_set (w : World) (g k : Nat) (u : Value) : w.grownBy (w.setCell ⟨g, k, none⟩ u) (some g) :=
  ⟨rfl, rfl, rfl, by simp [World.setCell], fun i _ hi => Below.heap_setCell _ _ _ _ (fun e => hi (by rw [e]))⟩
/-- Two rows of the call's own: the second lies in a later block. -/
theorem own_ne {w w' : World} {B B' : Nat} {T T' : TypeId} {v v' : Value} {xs xs' : List Value} (h : Own w B T v xs) (h' : Own w' B' T' v' xs') (hB : w.heap.size ≤ B') : v.ownBlock = none ∨ v.ownBlock ≠ v'.ownBlock := by
  cases hv : v.ownBlock with
  | none => exact .inl rfl
  | some k =>
    refine .inr fun e => ?_
    have h1 := (h.lt hv).2
    have h2 := (h'.lt e.symm).1
    omega
theorem own_ne' {w w' : World} {B B' : Nat} {T T' : TypeId} {v v' : Value} {xs xs' : List Value} (h : Own w B T v xs) (h' : Own w' B' T' v' xs') (hB : w.heap.size ≤ B') : v'.ownBlock = none ∨ v'.ownBlock ≠ v.ownBlock := by
  cases hv : v'.ownBlock with
  | none => exact .inl rfl
  | some k =>
    refine .inr fun e => ?_
    have h1 := (h.lt e.symm).2
    have h2 := (h'.lt hv).1
    omega
/-- The first n numbers from k on. -/
def marks (k : Int) : Nat → List Int
  | 0 => []
  | n + 1 => marks k n ++ [k + n]
theorem marks_len (k : Int) : ∀ n, (marks k n).length = n
  | 0 => rfl
  | n + 1 => by simp [marks, marks_len k n]
theorem marks_get (k : Int) {j : Nat} : ∀ {n : Nat}, j < n → (marks k n)[j]? = some (k + j)
  | 0, h => by omega
  | n + 1, h => by
    by_cases e : j = n
    · subst e; simp [marks, List.getElem?_append, marks_len]
    · simp only [marks]
      rw [List.getElem?_append_left (by rw [marks_len]; omega)]
      exact marks_get k (by omega)
theorem marks_step {k : Int} {xs : List Int} {j : Nat} (hj : j < xs.length) : (marks k j ++ xs.drop j).set j (k + j) = marks k (j + 1) ++ xs.drop (j + 1) := by
  rw [List.set_append_right _ _ (by rw [marks_len]; omega), marks_len, Nat.sub_self, List.drop_eq_getElem_cons hj, List.set_cons_zero]
  simp [marks]

theorem cell_new (w : World) (v : Value) (T : TypeId) : (w.alloc (.cells #[v] T)).cell? ⟨w.heap.size, 0, none⟩ = some v := by rw [World.cell?_alloc_at _ _ _ _ rfl]; rfl

/-! ### make, append -/
theorem Tryz.infoInt : (Tryz.prog.info? 3).map (fun i => (i.zero, i.size, i.bytes)) = some (some (.int .i64 0), 1, 8) := by kernel_rfl

/-- 'make([]int, n)'. -/
theorem mk_ints {w : World} {ops : Array Oper} {rest : List Oper} {o : Oper} {a : Act} {Q : Exit → Act → World → Prop}
    (hg : o.guard = none) (l c : Operand) (hop : o.op = Op.makeSlice 36 l c) {C : Int} (hl : a.eval l = .int .i64 C) (hc : a.eval c = .int .i64 C) (n : Nat) (hC : C = n) (hn : n ≤ 17592186044416)
    (hK : ∀ w', OwnInts w' w.heap.size (.slice (some ⟨w.heap.size, 0, none⟩) n n) (List.replicate n 0) → Below w.heap.size w w' → w.heap.size < w'.heap.size → wpList Tryz.prog ops Q rest (a.put o.dst (.slice (some ⟨w.heap.size, 0, none⟩) n n)) w') :
    wpList Tryz.prog ops Q (o :: rest) a w := by
  obtain ⟨i0, hi, hz0, hz1, hz2⟩ := info_parts Tryz.infoInt
  refine wpList_make_full w hg l c 36 hop w.heap.size 3 i0 (.int .i64 0) 1 Tryz.underlying36 hi hz0 hz1 .i64 .i64 C C n hl hc hC hC (by rw [hz2]; omega) (by unfold maxLen; omega) (Nat.le_refl _) ?_
  intro w' hown hgr
  have e : (madeCells (Value.int .i64 0).cells (n * 1)).toList = ints (List.replicate n 0) := by
    rw [Nat.mul_one]
    show (madeCells #[Value.int .i64 0] n).toList = _
    rw [toList_madeCells_one]
    simp [ints]
  rw [e] at hown
  have hown' : OwnInts w' w.heap.size (.slice (some ⟨w.heap.size, 0, none⟩) n n) (List.replicate n 0) := by
    unfold OwnInts Own; rw [ints_len, List.length_replicate]; exact hown
  exact hK w' hown' (below_of_grown hgr (Nat.le_refl _) (fun k hk => by cases hk)) (hown.lt _ rfl).2

/-- 'append(s, x)' of one element that lies in a new block of its own. -/
theorem app_one {w : World} {ops : Array Oper} {rest : List Oper} {o : Oper} {a : Act} {Q : Exit → Act → World → Prop} (t e : TypeId) (z : Value) (bytes : Nat)
    (hinfo : (Tryz.prog.info? e).map (fun i => (i.zero, i.size, i.bytes)) = some (some z, 1, bytes)) (ht : Tryz.prog.underlying t = some (.slice e)) (hzs : z.cells.size = 1)
    (hg : o.guard = none) (s x : Operand) (hop : o.op = .call { callee := .builtin .append, args := #[s, x], argTypes := #[t, t] })
    {B : Nat} {v : Value} {xs : List Value} (hs : a.eval s = v) (hown : Own w B e v xs) {ad : Addr} {c : Nat} {u : Value} (hx : a.eval x = .slice (some ad) 1 c) (hu : w.cell? ad = some u) (h1 : u.oneCell' = true)
    (hn : (xs.length + 1) * bytes ≤ 140737488355328) (hn2 : xs.length + 1 ≤ maxLen) (hB : B ≤ w.heap.size)
    (hK : ∀ v' w', Own w' B e v' (xs ++ [u]) → w.grownBy w' v.ownBlock → wpList Tryz.prog ops Q rest (a.put o.dst v') w') :
    wpList Tryz.prog ops Q (o :: rest) a w := by
  obtain ⟨i0, hi, hz0, hz1, hz2⟩ := info_parts hinfo
  refine wpList_append_own w hg s x t hop B e i0 z 1 bytes ht hi hz0 hz1 hz2 hzs (by decide) v xs.length xs hs hown ad 1 c [u] hx rfl ?_ ?_ hn2 hn hB ?_
  · intro j y hy
    match j, hy with
    | 0, hy =>
      simp at hy; subst hy
      have : ad.add 0 = ad := by unfold Addr.add; split <;> simp_all
      rw [this]; exact hu
  · intro y hy; simp at hy; subst hy; exact h1
  · intro v' w' ho hgr _
    refine hK v' w' ?_ hgr
    unfold Own
    rw [List.length_append]
    exact ho
/-- 'append(s, ys...)' onto a slice of the call's own, as one operation. -/
theorem wp_app_row {w : World} {o : Oper} {a : Act} {K : Act → World → Prop} {Q : Exit → Act → World → Prop} (t e : TypeId) (z : Value) (bytes : Nat)
    (hinfo : (Tryz.prog.info? e).map (fun i => (i.zero, i.size, i.bytes)) = some (some z, 1, bytes)) (ht : Tryz.prog.underlying t = some (.slice e)) (hzs : z.cells.size = 1)
    (s x : Operand) (hop : o.op = .call { callee := .builtin .append, args := #[s, x], argTypes := #[t, t] })
    {B : Nat} {v u : Value} {xs ys : List Value} (hs : a.eval s = v) (hown : Own w B e v xs) (hx : a.eval x = u) (hrow : RowAt w u ys) (h1 : ∀ y ∈ ys, y.oneCell' = true)
    (hn : (xs.length + ys.length) * bytes ≤ 140737488355328) (hn2 : xs.length + ys.length ≤ maxLen) (hB : B ≤ w.heap.size)
    (hK : ∀ v' w', Own w' B e v' (xs ++ ys) → w.grownBy w' v.ownBlock → K (a.put o.dst v') w') : o.wp Tryz.prog a w K Q := by
  obtain ⟨i0, hi, hz0, hz1, hz2⟩ := info_parts hinfo
  have hrow' := hrow
  obtain ⟨ao, cap, rfl, _⟩ := hrow'
  rcases hrow.addr with ⟨rfl, hl, rfl, rfl⟩ | ⟨ad, rfl, _, hc⟩
  · have hr := run_append_owned_none (P := Tryz.prog) w B t o.type e i0 1 ht hi v xs.length xs hown
    unfold Oper.wp execOp
    simp only [List.length_nil] at hx
    simp only [hop, resolve, invoke, builtin, Sem.run_bind, Sem.run_pure, Result.andThen_ok, List.map_toArray, List.map_cons, List.map_nil, hs, hx, hr]
    exact hK v w (by rw [List.append_nil]; exact hown) (World.grownBy.refl _ _)
  · refine wp_append_own w s x t hop B e i0 z 1 bytes ht hi hz0 hz1 hz2 hzs (by decide) v xs.length xs hs hown ad ys.length cap ys hx (by simp) hc h1 hn2 hn hB ?_
    intro v' w' ho hgr _
    refine hK v' w' ?_ hgr
    unfold Own
    rw [List.length_append]
    exact ho
/-- .. as a step of a region that draws its order. -/
theorem step_app_row {w : World} {ops : Array Oper} {o : Oper} {a : Act} {K : Act → World → Prop} {Q : Exit → Act → World → Prop} {E : Prop} (hg : o.guard = none) (t e : TypeId) (z : Value) (bytes : Nat)
    (hinfo : (Tryz.prog.info? e).map (fun i => (i.zero, i.size, i.bytes)) = some (some z, 1, bytes)) (ht : Tryz.prog.underlying t = some (.slice e)) (hzs : z.cells.size = 1)
    (s x : Operand) (hop : o.op = .call { callee := .builtin .append, args := #[s, x], argTypes := #[t, t] })
    {B : Nat} {v u : Value} {xs ys : List Value} (hs : a.eval s = v) (hown : Own w B e v xs) (hx : a.eval x = u) (hrow : RowAt w u ys) (h1 : ∀ y ∈ ys, y.oneCell' = true)
    (hn : (xs.length + ys.length) * bytes ≤ 140737488355328) (hn2 : xs.length + ys.length ≤ maxLen) (hB : B ≤ w.heap.size)
    (hK : ∀ v' w', Own w' B e v' (xs ++ ys) → w.grownBy w' v.ownBlock → K (a.put o.dst v') w') :
    if Region.wanted o (yielded ops a.tmps) = true then Oper.wp Tryz.prog o a w K Q else E := by
  rw [if_pos (by simp [Region.wanted, hg])]
  exact wp_app_row t e z bytes hinfo ht hzs s x hop hs hown hx hrow h1 hn hn2 hB hK
/-- .. outside one. -/
theorem app_row {w : World} {ops : Array Oper} {rest : List Oper} {o : Oper} {a : Act} {Q : Exit → Act → World → Prop} (t e : TypeId) (z : Value) (bytes : Nat)
    (hinfo : (Tryz.prog.info? e).map (fun i => (i.zero, i.size, i.bytes)) = some (some z, 1, bytes)) (ht : Tryz.prog.underlying t = some (.slice e)) (hzs : z.cells.size = 1)
    (hg : o.guard = none) (s x : Operand) (hop : o.op = .call { callee := .builtin .append, args := #[s, x], argTypes := #[t, t] })
    {B : Nat} {v u : Value} {xs ys : List Value} (hs : a.eval s = v) (hown : Own w B e v xs) (hx : a.eval x = u) (hrow : RowAt w u ys) (h1 : ∀ y ∈ ys, y.oneCell' = true)
    (hn : (xs.length + ys.length) * bytes ≤ 140737488355328) (hn2 : xs.length + ys.length ≤ maxLen) (hB : B ≤ w.heap.size)
    (hK : ∀ v' w', Own w' B e v' (xs ++ ys) → w.grownBy w' v.ownBlock → wpList Tryz.prog ops Q rest (a.put o.dst v') w') :
    wpList Tryz.prog ops Q (o :: rest) a w :=
  wpList_plain hg fun K hK' => wp_app_row t e z bytes hinfo ht hzs s x hop hs hown hx hrow h1 hn hn2 hB fun v' w' h2 h3 => hK' _ _ (hK v' w' h2 h3)
theorem ints_one (xs : List Int) : ∀ y ∈ ints xs, y.oneCell' = true := by
  intro y hy
  simp only [ints, List.mem_map] at hy
  obtain ⟨_, _, rfl⟩ := hy
  rfl
theorem ints_append (xs ys : List Int) : ints (xs ++ ys) = ints xs ++ ints ys := by simp [ints]
/-- 'append(s, ys...)' at slices of integers. -/
theorem app_ints {w : World} {ops : Array Oper} {rest : List Oper} {o : Oper} {a : Act} {Q : Exit → Act → World → Prop} (hg : o.guard = none) (s x : Operand) (hop : o.op = .call { callee := .builtin .append, args := #[s, x], argTypes := #[36, 36] })
    {B : Nat} {v u : Value} {xs ys : List Int} (hs : a.eval s = v) (hown : OwnInts w B v xs) (hx : a.eval x = u) (hrow : IntsAt w u ys)
    (hn : xs.length + ys.length ≤ 17592186044416) (hB : B ≤ w.heap.size)
    (hK : ∀ v' w', OwnInts w' B v' (xs ++ ys) → w.grownBy w' v.ownBlock → wpList Tryz.prog ops Q rest (a.put o.dst v') w') :
    wpList Tryz.prog ops Q (o :: rest) a w := by
  refine app_row 36 3 (.int .i64 0) 8 Tryz.infoInt Tryz.underlying36 rfl hg s x hop hs hown hx hrow (ints_one _) (by rw [ints_len, ints_len]; omega) (by rw [ints_len, ints_len]; unfold maxLen; omega) hB ?_
  intro v' w' h2 h3
  rw [← ints_append] at h2
  exact hK v' w' h2 h3
theorem step_app_ints {w : World} {ops : Array Oper} {o : Oper} {a : Act} {K : Act → World → Prop} {Q : Exit → Act → World → Prop} {E : Prop} (hg : o.guard = none) (s x : Operand) (hop : o.op = .call { callee := .builtin .append, args := #[s, x], argTypes := #[36, 36] })
    {B : Nat} {v u : Value} {xs ys : List Int} (hs : a.eval s = v) (hown : OwnInts w B v xs) (hx : a.eval x = u) (hrow : IntsAt w u ys)
    (hn : xs.length + ys.length ≤ 17592186044416) (hB : B ≤ w.heap.size)
    (hK : ∀ v' w', OwnInts w' B v' (xs ++ ys) → w.grownBy w' v.ownBlock → K (a.put o.dst v') w') :
    if Region.wanted o (yielded ops a.tmps) = true then Oper.wp Tryz.prog o a w K Q else E := by
  refine step_app_row hg 36 3 (.int .i64 0) 8 Tryz.infoInt Tryz.underlying36 rfl s x hop hs hown hx hrow (ints_one _) (by rw [ints_len, ints_len]; omega) (by rw [ints_len, ints_len]; unfold maxLen; omega) hB ?_
  intro v' w' h2 h3
  rw [← ints_append] at h2
  exact hK v' w' h2 h3
/-- 'append(s, x)' at a slice of integers. -/
theorem app_int {w : World} {ops : Array Oper} {rest : List Oper} {o : Oper} {a : Act} {Q : Exit → Act → World → Prop} (hg : o.guard = none) (s x : Operand) (hop : o.op = .call { callee := .builtin .append, args := #[s, x], argTypes := #[36, 36] })
    {B : Nat} {v : Value} {xs : List Int} (hs : a.eval s = v) (hown : OwnInts w B v xs) {ad : Addr} {c : Nat} {y : Int} (hx : a.eval x = .slice (some ad) 1 c) (hu : w.cell? ad = some (.int .i64 y))
    (hn : xs.length + 1 ≤ 17592186044416) (hB : B ≤ w.heap.size)
    (hK : ∀ v' w', OwnInts w' B v' (xs ++ [y]) → w.grownBy w' v.ownBlock → wpList Tryz.prog ops Q rest (a.put o.dst v') w') :
    wpList Tryz.prog ops Q (o :: rest) a w := by
  refine app_one 36 3 (.int .i64 0) 8 Tryz.infoInt Tryz.underlying36 rfl hg s x hop hs hown hx hu rfl (by rw [ints_len]; omega) (by rw [ints_len]; unfold maxLen; omega) hB ?_
  intro v' w' h2 h3
  refine hK v' w' ?_ h3
  unfold OwnInts
  rw [ints_append]
  exact h2
/-- '[]int{}'. -/
theorem own_empty (w : World) : OwnInts (w.alloc (.cells #[] 3)) w.heap.size (.slice (some ⟨w.heap.size, 0, none⟩) 0 0) [] :=
  World.ownsRow_lit (size := 1) w #[] 0 (Nat.le_refl _) (by unfold maxLen; omega) rfl
theorem below_alloc (w : World) (o : Obj) : Below w.heap.size w (w.alloc o) := (Below.refl _ _).alloc (Nat.le_refl _) o
end Go.Proofs.YtdjdagcgodpgdaaGreat
