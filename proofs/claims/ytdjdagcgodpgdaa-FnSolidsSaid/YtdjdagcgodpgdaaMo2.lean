/-
  Part 2 of 8 of what the law FnSolids rests on.
-/
import Derived.Test.YtdjdagcgodpgdaaMo1
import Derived.WalkKit
import Derived.Lib.Hide
import Derived.Deep.QuietTactic
import Derived.Test.YtdjdagcgodpgdaaRows
import Derived.WalkSpells
import Derived.WalkLawsBesides
import Derived.Deep.LoopGhost
import Derived.BigQuiet
set_option maxRecDepth 20000
/- A call that only reads: the world behind it is the world before it but for draws. -/
namespace Go.Proofs.Ytdjdagcgodpgdaa
open Go.RowKit
/-- w' is w but for some draws. -/
def Drawn (w w' : World) : Prop := ∃ m, w' = w.drewN m
theorem Drawn.refl (w : World) : Drawn w w := ⟨0, rfl⟩
theorem Drawn.one (w : World) (m : Nat) : Drawn w (w.drewN m) := ⟨m, rfl⟩
theorem Drawn.trans {a b c : World} (h : Drawn a b) (k : Drawn b c) : Drawn a c := by
  obtain ⟨m, rfl⟩ := h
  obtain ⟨n, rfl⟩ := k
  exact ⟨m + n, World.drewN_drewN ..⟩
theorem Drawn.next {a b : World} (h : Drawn a b) (m : Nat) : Drawn a (b.drewN m) := h.trans (Drawn.one b m)
theorem Drawn.cell {w w' : World} (h : Drawn w w') (a : Addr) : w'.cell? a = w.cell? a := by obtain ⟨m, rfl⟩ := h; rfl
theorem Drawn.cells {w w' : World} (h : Drawn w w') : ∀ a x, w.cell? a = some x → w'.cell? a = some x := fun a x hx => by rw [h.cell]; exact hx
theorem Drawn.frozen {w w' : World} (h : Drawn w w') (a : Addr) : w'.frozen? a = w.frozen? a := by obtain ⟨m, rfl⟩ := h; rfl
theorem Drawn.heap {w w' : World} (h : Drawn w w') : w'.heap = w.heap := by obtain ⟨m, rfl⟩ := h; rfl
theorem Drawn.below {w w' : World} (h : Drawn w w') (B : Nat) : Below B w w' := by
  obtain ⟨m, rfl⟩ := h
  exact ⟨rfl, rfl, rfl, Nat.le_refl _, fun _ _ => rfl⟩
/-- The contract of a call that only reads, in the form that 'go_quiet' asks. -/
theorem quiet_c {P : Program} {f : FuncId} {args : Array Value} {w : World} {n : Nat} {v : Value} (h : Calls P f args (w.drewN n) fun e w' => e = .returned v ∧ Drawn (w.drewN n) w') :
    Calls P f args (w.drewN n) fun e w'' => e = .returned v ∧ ∃ m, w'' = w.drewN m := Calls.quiet_of h
theorem intq' {Q : Ending → World → Prop} {n n' : Int} {k : IntKind} {w : World} (h : Q (.returned (.int k n)) w) (e : n = n') : Q (.returned (.int k n')) w := by
  rw [← e]; exact h
theorem boolq' {Q : Ending → World → Prop} {b b' : Bool} {w : World} (h : Q (.returned (.bool b)) w) (e : b = b') : Q (.returned (.bool b')) w := by
  rw [← e]; exact h
end Go.Proofs.Ytdjdagcgodpgdaa
/- How slices of integers lie in memory, and the laws on make and append in these words. -/
set_option linter.unusedVariables false
namespace Go.Proofs.Ytdjdagcgodpgdaa
open Go.RowKit

/-! ### slices that are read -/

/-- The value v is a slice of one-cell elements that holds xs. -/
def RowAt (w : World) (v : Value) (xs : List Value) : Prop :=
  ∃ ao cap, v = .slice ao xs.length cap ∧ xs.length ≤ cap ∧ cap ≤ maxLen ∧ (ao = none → cap = 0) ∧ ∀ k x, xs[k]? = some x → ∃ b off, ao = some ⟨b, off, none⟩ ∧ w.cell? ⟨b, off + k, none⟩ = some x

def ints (xs : List Int) : List Value := xs.map (Value.int .i64)
theorem ints_len (xs : List Int) : (ints xs).length = xs.length := by simp [ints]
theorem ints_get {xs : List Int} {k : Nat} : (ints xs)[k]? = (xs[k]?).map (Value.int .i64) := by simp [ints]
theorem ints_inj : ∀ {xs ys : List Int}, ints xs = ints ys → xs = ys
  | [], [], _ => rfl
  | [], _ :: _, h => by simp [ints] at h
  | _ :: _, [], h => by simp [ints] at h
  | x :: xs, y :: ys, h => by
    simp only [ints, List.map_cons, List.cons.injEq, Value.int.injEq, true_and] at h
    rw [h.1, ints_inj (xs := xs) (ys := ys) h.2]

def IntsAt (w : World) (v : Value) (xs : List Int) : Prop := RowAt w v (ints xs)

theorem RowAt.same {w w' : World} {v : Value} {xs : List Value} (h : RowAt w v xs) (hw : ∀ a x, w.cell? a = some x → w'.cell? a = some x) : RowAt w' v xs := by
  obtain ⟨ao, cap, e1, e2, e3, e0, e4⟩ := h
  refine ⟨ao, cap, e1, e2, e3, e0, fun k x hk => ?_⟩
  obtain ⟨b, off, h1, h2⟩ := e4 k x hk
  exact ⟨b, off, h1, hw _ _ h2⟩
theorem below_cells {w w' : World} (hb : Below w.heap.size w w') : ∀ a x, w.cell? a = some x → w'.cell? a = some x := fun a x h => by
  rw [hb.cell (World.block_lt_of_cell? w a h)]; exact h
theorem RowAt.below {w w' : World} {v : Value} {xs : List Value} (h : RowAt w v xs) (hb : Below w.heap.size w w') : RowAt w' v xs := h.same (below_cells hb)
theorem RowAt.drewN {w : World} {v : Value} {xs : List Value} (h : RowAt w v xs) (m : Nat) : RowAt (w.drewN m) v xs := h
theorem IntsAt.below {w w' : World} {v : Value} {xs : List Int} (h : IntsAt w v xs) (hb : Below w.heap.size w w') : IntsAt w' v xs := RowAt.below h hb
theorem IntsAt.same {w w' : World} {v : Value} {xs : List Int} (h : IntsAt w v xs) (hw : ∀ a x, w.cell? a = some x → w'.cell? a = some x) : IntsAt w' v xs := RowAt.same h hw
theorem RowAt.drawn {w w' : World} {v : Value} {xs : List Value} (h : RowAt w v xs) (hw : Drawn w w') : RowAt w' v xs := h.same hw.cells
theorem IntsAt.drawn {w w' : World} {v : Value} {xs : List Int} (h : IntsAt w v xs) (hw : Drawn w w') : IntsAt w' v xs := RowAt.drawn h hw
/-- The shape of the value. -/
theorem IntsAt.form {w : World} {v : Value} {xs : List Int} (h : IntsAt w v xs) : ∃ ao cap, v = .slice ao xs.length cap ∧ (xs.length : Int) ≤ 9223372036854775807 ∧ xs.length ≤ cap ∧ (cap : Int) ≤ 9223372036854775807 := by
  obtain ⟨ao, cap, e1, e2, e3, e0, e4⟩ := h
  rw [ints_len] at e1 e2
  unfold maxLen at e3
  exact ⟨ao, cap, e1, by omega, e2, by omega⟩
theorem RowAt.form {w : World} {v : Value} {xs : List Value} (h : RowAt w v xs) : ∃ ao cap, v = .slice ao xs.length cap ∧ (xs.length : Int) ≤ 9223372036854775807 ∧ xs.length ≤ cap ∧ (cap : Int) ≤ 9223372036854775807 := by
  obtain ⟨ao, cap, e1, e2, e3, e0, e4⟩ := h
  unfold maxLen at e3
  exact ⟨ao, cap, e1, by omega, e2, by omega⟩
/-- The cell at k. -/
theorem IntsAt.cell {w : World} {ao : Option Addr} {n cap : Nat} {xs : List Int} (h : IntsAt w (.slice ao n cap) xs) {k : Nat} (hk : k < xs.length) :
    ∃ b off x, ao = some ⟨b, off, none⟩ ∧ Hid (xs[k]? = some x) ∧ w.cell? ⟨b, off + k, none⟩ = some (.int .i64 x) := by
  obtain ⟨ao', cap', e1, e2, e3, e0, e4⟩ := h
  simp only [Value.slice.injEq] at e1
  obtain ⟨rfl, _, rfl⟩ := e1
  obtain ⟨b, off, h1, h2⟩ := e4 k (.int .i64 xs[k]) (by rw [ints_get, List.getElem?_eq_getElem hk]; rfl)
  exact ⟨b, off, xs[k], h1, Lib.hid (List.getElem?_eq_getElem hk), h2⟩
theorem RowAt.cell {w : World} {ao : Option Addr} {n cap : Nat} {xs : List Value} (h : RowAt w (.slice ao n cap) xs) {k : Nat} (hk : k < xs.length) :
    ∃ b off x, ao = some ⟨b, off, none⟩ ∧ Hid (xs[k]? = some x) ∧ w.cell? ⟨b, off + k, none⟩ = some x := by
  obtain ⟨ao', cap', e1, e2, e3, e0, e4⟩ := h
  simp only [Value.slice.injEq] at e1
  obtain ⟨rfl, _, rfl⟩ := e1
  obtain ⟨b, off, h1, h2⟩ := e4 k xs[k] (List.getElem?_eq_getElem hk)
  exact ⟨b, off, xs[k], h1, Lib.hid (List.getElem?_eq_getElem hk), h2⟩
theorem IntsAt.len {w : World} {ao : Option Addr} {n cap : Nat} {xs : List Int} (h : IntsAt w (.slice ao n cap) xs) : n = xs.length := by
  obtain ⟨ao', cap', e1, e2, e3, e0, e4⟩ := h
  simp only [Value.slice.injEq, ints_len] at e1
  exact e1.2.1

/-- 's[k:]'. -/
theorem RowAt.tail {w : World} {ao : Option Addr} {n cap : Nat} {xs : List Value} (h : RowAt w (.slice ao n cap) xs) {k : Nat} (hk : k ≤ xs.length) :
    RowAt w (.slice (if cap = k then ao else Option.map (fun x => x.add k) ao) (n - k) (cap - k)) (xs.drop k) := by
  obtain ⟨ao', cap', e1, e2, e3, e0, e4⟩ := h
  simp only [Value.slice.injEq] at e1
  obtain ⟨rfl, rfl, rfl⟩ := e1
  refine ⟨_, _, by rw [List.length_drop], by rw [List.length_drop]; omega, by omega, ?_, fun j x hj => ?_⟩
  · intro hn
    split at hn
    · omega
    · cases ao with
      | none => have := e0 rfl; omega
      | some a => simp at hn
  · rw [List.getElem?_drop] at hj
    obtain ⟨b, off, h1, h2⟩ := e4 (k + j) x hj
    have hlt : k + j < xs.length := (List.getElem?_eq_some_iff.1 hj).1
    rw [if_neg (by omega)]
    subst h1
    refine ⟨b, off + k, ?_, ?_⟩
    · simp only [Option.map_some, Option.some.injEq, Addr.add]
      split
      · simp_all
      · rfl
    · rw [Nat.add_assoc]; exact h2
/-- 's[:k]'. -/
theorem RowAt.upto {w : World} {ao : Option Addr} {n cap : Nat} {xs : List Value} (h : RowAt w (.slice ao n cap) xs) {k : Nat} (hk : k ≤ xs.length) :
    RowAt w (.slice ao k cap) (xs.take k) := by
  obtain ⟨ao', cap', e1, e2, e3, e0, e4⟩ := h
  simp only [Value.slice.injEq] at e1
  obtain ⟨rfl, rfl, rfl⟩ := e1
  refine ⟨_, _, by rw [List.length_take, Nat.min_eq_left hk], by rw [List.length_take]; omega, by omega, e0, fun j x hj => ?_⟩
  rw [List.getElem?_take] at hj
  split at hj
  · exact e4 j x hj
  · cases hj
theorem ints_drop (xs : List Int) (k : Nat) : ints (xs.drop k) = (ints xs).drop k := by simp [ints, List.map_drop]
theorem ints_take (xs : List Int) (k : Nat) : ints (xs.take k) = (ints xs).take k := by simp [ints, List.map_take]
theorem IntsAt.tail {w : World} {ao : Option Addr} {n cap : Nat} {xs : List Int} (h : IntsAt w (.slice ao n cap) xs) {k : Nat} (hk : k ≤ xs.length) :
    IntsAt w (.slice (if cap = k then ao else Option.map (fun x => x.add k) ao) (n - k) (cap - k)) (xs.drop k) := by
  unfold IntsAt; rw [ints_drop]; exact RowAt.tail h (by rw [ints_len]; exact hk)
theorem IntsAt.upto {w : World} {ao : Option Addr} {n cap : Nat} {xs : List Int} (h : IntsAt w (.slice ao n cap) xs) {k : Nat} (hk : k ≤ xs.length) :
    IntsAt w (.slice ao k cap) (xs.take k) := by
  unfold IntsAt; rw [ints_take]; exact RowAt.upto h (by rw [ints_len]; exact hk)
/-- A row that is nil, or lies at an address. -/
theorem RowAt.addr {w : World} {ao : Option Addr} {n cap : Nat} {xs : List Value} (h : RowAt w (.slice ao n cap) xs) :
    (ao = none ∧ n = 0 ∧ cap = 0 ∧ xs = []) ∨ (∃ a, ao = some a ∧ n = xs.length ∧ ∀ j u, xs[j]? = some u → w.cell? (a.add j) = some u) := by
  obtain ⟨ao', cap', e1, e2, e3, e0, e4⟩ := h
  simp only [Value.slice.injEq] at e1
  obtain ⟨rfl, rfl, rfl⟩ := e1
  cases ao with
  | none =>
    have hc := e0 rfl
    exact .inl ⟨rfl, by omega, hc, List.eq_nil_of_length_eq_zero (by omega)⟩
  | some a =>
    refine .inr ⟨a, rfl, rfl, fun j u hj => ?_⟩
    obtain ⟨b, off, h1, h2⟩ := e4 j u hj
    cases h1
    have e : (⟨b, off, none⟩ : Addr).add j = ⟨b, off + j, none⟩ := by unfold Addr.add; split <;> simp_all
    rw [e]; exact h2

/-! ### slices that the call owns -/

/-- v is a slice of the call's own, of elements of type T with one cell each, in a block from B on; it holds xs. -/
def Own (w : World) (B : Nat) (T : TypeId) (v : Value) (xs : List Value) : Prop := w.ownsRow B T 1 v xs.length xs
def OwnInts (w : World) (B : Nat) (v : Value) (xs : List Int) : Prop := Own w B 3 v (ints xs)

theorem Own.kept {w w' : World} {B : Nat} {T : TypeId} {v : Value} {xs : List Value} (h : Own w B T v xs) (hw : ∀ k, v.ownBlock = some k → w'.heap[k]? = w.heap[k]?) : Own w' B T v xs := by
  obtain ⟨h1, h2⟩ := h
  refine ⟨h1, ?_⟩
  rcases h2 with hn | ⟨g, cap, cur, rfl, hb, hgg, rest⟩
  · exact .inl hn
  · exact .inr ⟨g, cap, cur, rfl, hb, by rw [hw g rfl]; exact hgg, rest⟩
theorem Own.lt {w : World} {B : Nat} {T : TypeId} {v : Value} {xs : List Value} (h : Own w B T v xs) {k : Nat} (hk : v.ownBlock = some k) : B ≤ k ∧ k < w.heap.size := World.ownsRow.lt h k hk
theorem Own.below {w w' : World} {B : Nat} {T : TypeId} {v : Value} {xs : List Value} (h : Own w B T v xs) (hb : Below w.heap.size w w') : Own w' B T v xs :=
  h.kept fun k hk => hb.block k (h.lt hk).2
theorem Own.grown {w w' : World} {B : Nat} {T : TypeId} {v : Value} {xs : List Value} {row : Option Nat} (h : Own w B T v xs) (hg : w.grownBy w' row) (hne : v.ownBlock = none ∨ v.ownBlock ≠ row) : Own w' B T v xs :=
  h.kept fun k hk => hg.block k (h.lt hk).2 (by
    rw [hk] at hne
    rcases hne with h | h
    · cases h
    · exact h)
theorem Own.mono {w : World} {B B' : Nat} {T : TypeId} {v : Value} {xs : List Value} (h : Own w B T v xs) (hB : B' ≤ B) : Own w B' T v xs := by
  obtain ⟨h1, h2⟩ := h
  refine ⟨h1, ?_⟩
  rcases h2 with hn | ⟨g, cap, cur, rfl, hb, rest⟩
  · exact .inl hn
  · exact .inr ⟨g, cap, cur, rfl, by omega, rest⟩
theorem Own.drewN {w : World} {B : Nat} {T : TypeId} {v : Value} {xs : List Value} (h : Own w B T v xs) (m : Nat) : Own (w.drewN m) B T v xs := h
theorem Own.drawn {w w' : World} {B : Nat} {T : TypeId} {v : Value} {xs : List Value} (h : Own w B T v xs) (hw : Drawn w w') : Own w' B T v xs := h.kept fun k _ => by rw [hw.heap]
theorem Own.nil (w : World) (B : Nat) (T : TypeId) : Own w B T (.slice none 0 0) [] := World.ownsRow_nil w B T 1
/-- The shape of the value. -/
theorem Own.form {w : World} {B : Nat} {T : TypeId} {v : Value} {xs : List Value} (h : Own w B T v xs) :
    ∃ ao cap, v = .slice ao xs.length cap ∧ (xs.length : Int) ≤ 9223372036854775807 ∧ xs.length ≤ cap ∧ (cap : Int) ≤ 9223372036854775807 := by
  rcases h.2 with ⟨rfl, hn⟩ | ⟨g, cap, cur, rfl, hb, hgg, h1, h2, h3, h4⟩
  · exact ⟨none, 0, by rw [hn], by omega, by omega, by omega⟩
  · unfold maxLen at h2
    exact ⟨_, cap, rfl, by omega, h1, by omega⟩
theorem Own.row {w : World} {B : Nat} {T : TypeId} {v : Value} {xs : List Value} (h : Own w B T v xs) : RowAt w v xs := by
  rcases h.2 with ⟨rfl, hn⟩ | ⟨g, cap, cur, rfl, hb, hgg, h1, h2, h3, h4⟩
  · obtain rfl : xs = [] := List.eq_nil_of_length_eq_zero hn
    exact ⟨none, 0, rfl, Nat.le_refl _, by unfold maxLen; omega, fun _ => rfl, fun k x hk => by simp at hk⟩
  · refine ⟨some ⟨g, 0, none⟩, cap, rfl, h1, h2, (fun h => by cases h), fun k x hk => ⟨g, 0, rfl, ?_⟩⟩
    rw [Nat.zero_add, World.ownsRow.cellAt h k (by have := (List.getElem?_eq_some_iff.1 hk).1; omega)]
    exact hk
theorem OwnInts.at {w : World} {B : Nat} {v : Value} {xs : List Int} (h : OwnInts w B v xs) : IntsAt w v xs := Own.row h
theorem OwnInts.below {w w' : World} {B : Nat} {v : Value} {xs : List Int} (h : OwnInts w B v xs) (hb : Below w.heap.size w w') : OwnInts w' B v xs := Own.below h hb
theorem OwnInts.drawn {w w' : World} {B : Nat} {v : Value} {xs : List Int} (h : OwnInts w B v xs) (hd : Drawn w w') : OwnInts w' B v xs := Own.drawn h hd
theorem OwnInts.lt {w : World} {B : Nat} {v : Value} {xs : List Int} (h : OwnInts w B v xs) {k : Nat} (hk : v.ownBlock = some k) : B ≤ k ∧ k < w.heap.size := Own.lt h hk
theorem OwnInts.mono {w : World} {B B' : Nat} {v : Value} {xs : List Int} (h : OwnInts w B v xs) (hB : B' ≤ B) : OwnInts w B' v xs := Own.mono h hB
/-- The head of a slice of at least one element. -/
theorem Own.head {w : World} {B : Nat} {T : TypeId} {ao : Option Addr} {n cap : Nat} {xs : List Value} (h : Own w B T (.slice ao n cap) xs) (hn : 0 < xs.length) :
    ∃ g, ao = some ⟨g, 0, none⟩ ∧ B ≤ g ∧ g < w.heap.size := by
  rcases h.2 with ⟨he, hn'⟩ | ⟨g, cap', cur, he, hb, hgg, h1, h2, h3, h4⟩
  · omega
  · simp only [Value.slice.injEq] at he
    exact ⟨g, he.1, hb, (Array.getElem?_eq_some_iff.1 hgg).1⟩
theorem Own.len {w : World} {B : Nat} {T : TypeId} {ao : Option Addr} {n cap : Nat} {xs : List Value} (h : Own w B T (.slice ao n cap) xs) : n = xs.length := by
  obtain ⟨_, _, e, _⟩ := h.form
  simp only [Value.slice.injEq] at e
  exact e.2.1
theorem Own.frozen {w : World} {B : Nat} {T : TypeId} {g n cap : Nat} {xs : List Value} (h : Own w B T (.slice (some ⟨g, 0, none⟩) n cap) xs) (k : Nat) : w.frozen? ⟨g, k, none⟩ = false := by
  obtain rfl := h.len
  exact World.ownsRow.frozenAt h k
theorem Own.cell {w : World} {B : Nat} {T : TypeId} {g n cap : Nat} {xs : List Value} (h : Own w B T (.slice (some ⟨g, 0, none⟩) n cap) xs) {k : Nat} {x : Value} (hk : xs[k]? = some x) : w.cell? ⟨g, k, none⟩ = some x := by
  obtain rfl := h.len
  rw [World.ownsRow.cellAt h k (by have := (List.getElem?_eq_some_iff.1 hk).1; omega)]
  exact hk
/-- A store into it. -/
theorem Own.set {w : World} {B : Nat} {T : TypeId} {g n cap : Nat} {xs : List Value} (h : Own w B T (.slice (some ⟨g, 0, none⟩) n cap) xs) (k : Nat) (u : Value) :
    Own (w.setCell ⟨g, k, none⟩ u) B T (.slice (some ⟨g, 0, none⟩) n cap) (xs.set k u) := by
  obtain rfl := h.len
  have := World.ownsRow.stored h k u
  unfold Own
  rw [List.length_set]
  exact this.1
/-- A store elsewhere. -/
theorem Own.setOther {w : World} {B : Nat} {T : TypeId} {v : Value} {xs : List Value} (h : Own w B T v xs) {a : Addr} (u : Value) (hne : v.ownBlock ≠ some a.block) : Own (w.setCell a u) B T v xs :=
  h.kept fun k hk => Below.heap_setCell _ _ _ _ (fun e => hne (by rw [hk, e]))
theorem below_drewN {B : Nat} {a w : World} (h : Below B a w) (n : Nat) : Below B a (w.drewN n) := h.trans ⟨rfl, rfl, rfl, Nat.le_refl _, fun _ _ => rfl⟩
theorem below_of_grown {w w' : World} {row : Option Nat} {B : Nat} (h : w.grownBy w' row) (hB : B ≤ w.heap.size) (hr : ∀ k, row = some k → B ≤ k) : Below B w w' :=
  (Below.refl B w).grown h hB hr
/-- Two steps: what lay at the first's beginning. -/
theorem below_trans {a b c : World} (h : Below a.heap.size a b) (k : Below b.heap.size b c) : Below a.heap.size a c := h.trans (k.mono h.size)

theorem ints_set (xs : List Int) (k : Nat) (x : Int) : ints (xs.set k x) = (ints xs).set k (.int .i64 x) := by simp [ints, List.map_set]
theorem OwnInts.set {w : World} {B : Nat} {g n cap : Nat} {xs : List Int} (h : OwnInts w B (.slice (some ⟨g, 0, none⟩) n cap) xs) (k : Nat) (x : Int) :
    OwnInts (w.setCell ⟨g, k, none⟩ (.int .i64 x)) B (.slice (some ⟨g, 0, none⟩) n cap) (xs.set k x) := by
  unfold OwnInts; rw [ints_set]; exact Own.set h k _
theorem OwnInts.cell {w : World} {B : Nat} {g n cap : Nat} {xs : List Int} (h : OwnInts w B (.slice (some ⟨g, 0, none⟩) n cap) xs) {k : Nat} (hk : k < xs.length) : ∃ x, Hid (xs[k]? = some x) ∧ w.cell? ⟨g, k, none⟩ = some (.int .i64 x) :=
  ⟨xs[k], Lib.hid (List.getElem?_eq_getElem hk), Own.cell h (by rw [ints_get, List.getElem?_eq_getElem hk]; rfl)⟩
/-- A row that is filled from its head on. -/
theorem fill_step {α : Type} {xs : List α} {n j : Nat} {x z : α} (hj : j < n) (hx : xs[j]? = some x) :
    (xs.take j ++ List.replicate (n - j) z).set j x = xs.take (j + 1) ++ List.replicate (n - (j + 1)) z := by
  have hjl : j < xs.length := (List.getElem?_eq_some_iff.1 hx).1
  have hl : (xs.take j).length = j := by rw [List.length_take]; omega
  rw [List.set_append_right _ _ (by omega), hl, Nat.sub_self, show n - j = (n - (j + 1)) + 1 from by omega, List.replicate_succ, List.set_cons_zero, List.take_add_one, hx]
  simp
theorem fill_end {α : Type} {xs : List α} {n j : Nat} {z : α} (hj : n ≤ j) (hx : xs.length ≤ j) : xs.take j ++ List.replicate (n - j) z = xs := by
  rw [List.take_of_length_le hx, show n - j = 0 from by omega]; simp

theorem grown_trans {a b c : World} {row : Option Nat} (h : a.grownBy b row) (k : b.grownBy c row) : a.grownBy c row :=
  ⟨k.os.trans h.os, k.tape.trans h.tape, k.output.trans h.output, Nat.le_trans h.size k.size, fun i hi hr => (k.block i (Nat.lt_of_lt_of_le hi h.size) hr).trans (h.block i hi hr)⟩
theorem grown_set (w : World) (g k : Nat) (u : Value) : w.grownBy (w.setCell ⟨g, k, none⟩ u) (some g) :=
  ⟨rfl, rfl, rfl, by simp [World.setCell], fun i _ hi => Below.heap_setCell _ _ _ _ (fun e => hi (by rw [e]))⟩
/-- Two rows of the call's own: the second lies in a later block. -/
theorem own_ne {w w' : World} {B B' : Nat} {T T' : TypeId} {v v' : Value} {xs xs' : List Value} (h : Own w B T v xs) (h' : Own w' B' T' v' xs') (hB : w.heap.size ≤ B') : v.ownBlock = none ∨ v.ownBlock ≠ v'.ownBlock := by
  cases hv : v.ownBlock with
  | none => exact .inl rfl
  | some k =>
    refine .inr fun e => ?_
    have h1 := (h.lt hv).2
    have h2 := (h'.lt e.symm).1
    omega
theorem own_ne' {w w' : World} {B B' : Nat} {T T' : TypeId} {v v' : Value} {xs xs' : List Value} (h : Own w B T v xs) (h' : Own w' B' T' v' xs') (hB : w.heap.size ≤ B') : v'.ownBlock = none ∨ v'.ownBlock ≠ v.ownBlock := by
  cases hv : v'.ownBlock with
  | none => exact .inl rfl
  | some k =>
    refine .inr fun e => ?_
    have h1 := (h.lt e.symm).2
    have h2 := (h'.lt hv).1
    omega
/-- The first n numbers from k on. -/
def marks (k : Int) : Nat → List Int
  | 0 => []
  | n + 1 => marks k n ++ [k + n]
theorem marks_len (k : Int) : ∀ n, (marks k n).length = n
  | 0 => rfl
  | n + 1 => by simp [marks, marks_len k n]
theorem marks_get (k : Int) {j : Nat} : ∀ {n : Nat}, j < n → (marks k n)[j]? = some (k + j)
  | 0, h => by omega
  | n + 1, h => by
    by_cases e : j = n
    · subst e; simp [marks, List.getElem?_append, marks_len]
    · simp only [marks]
      rw [List.getElem?_append_left (by rw [marks_len]; omega)]
      exact marks_get k (by omega)
theorem marks_step {k : Int} {xs : List Int} {j : Nat} (hj : j < xs.length) : (marks k j ++ xs.drop j).set j (k + j) = marks k (j + 1) ++ xs.drop (j + 1) := by
  rw [List.set_append_right _ _ (by rw [marks_len]; omega), marks_len, Nat.sub_self, List.drop_eq_getElem_cons hj, List.set_cons_zero]
  simp [marks]

theorem cell_new (w : World) (v : Value) (T : TypeId) : (w.alloc (.cells #[v] T)).cell? ⟨w.heap.size, 0, none⟩ = some v := by rw [World.cell?_alloc_at _ _ _ _ rfl]; rfl

/-! ### make, append -/
theorem Try.infoInt : (Try.prog.info? 3).map (fun i => (i.zero, i.size, i.bytes)) = some (some (.int .i64 0), 1, 8) := by kernel_rfl

/-- 'make([]int, n)'. -/
theorem mk_ints {w : World} {ops : Array Oper} {rest : List Oper} {o : Oper} {a : Act} {Q : Exit → Act → World → Prop}
    (hg : o.guard = none) (l c : Operand) (hop : o.op = Op.makeSlice 38 l c) {C : Int} (hl : a.eval l = .int .i64 C) (hc : a.eval c = .int .i64 C) (n : Nat) (hC : C = n) (hn : n ≤ 17592186044416)
    (hK : ∀ w', OwnInts w' w.heap.size (.slice (some ⟨w.heap.size, 0, none⟩) n n) (List.replicate n 0) → Below w.heap.size w w' → w.heap.size < w'.heap.size → wpList Try.prog ops Q rest (a.put o.dst (.slice (some ⟨w.heap.size, 0, none⟩) n n)) w') :
    wpList Try.prog ops Q (o :: rest) a w := by
  obtain ⟨i0, hi, hz0, hz1, hz2⟩ := info_parts Try.infoInt
  refine wpList_make_full w hg l c 38 hop w.heap.size 3 i0 (.int .i64 0) 1 Try.underlying38 hi hz0 hz1 .i64 .i64 C C n hl hc hC hC (by rw [hz2]; omega) (by unfold maxLen; omega) (Nat.le_refl _) ?_
  intro w' hown hgr
  have e : (madeCells (Value.int .i64 0).cells (n * 1)).toList = ints (List.replicate n 0) := by
    rw [Nat.mul_one]
    show (madeCells #[Value.int .i64 0] n).toList = _
    rw [toList_madeCells_one]
    simp [ints]
  rw [e] at hown
  have hown' : OwnInts w' w.heap.size (.slice (some ⟨w.heap.size, 0, none⟩) n n) (List.replicate n 0) := by
    unfold OwnInts Own; rw [ints_len, List.length_replicate]; exact hown
  exact hK w' hown' (below_of_grown hgr (Nat.le_refl _) (fun k hk => by cases hk)) (hown.lt _ rfl).2

/-- 'append(s, x)' of one element that lies in a new block of its own. -/
theorem app_one {w : World} {ops : Array Oper} {rest : List Oper} {o : Oper} {a : Act} {Q : Exit → Act → World → Prop} (t e : TypeId) (z : Value) (bytes : Nat)
    (hinfo : (Try.prog.info? e).map (fun i => (i.zero, i.size, i.bytes)) = some (some z, 1, bytes)) (ht : Try.prog.underlying t = some (.slice e)) (hzs : z.cells.size = 1)
    (hg : o.guard = none) (s x : Operand) (hop : o.op = .call { callee := .builtin .append, args := #[s, x], argTypes := #[t, t] })
    {B : Nat} {v : Value} {xs : List Value} (hs : a.eval s = v) (hown : Own w B e v xs) {ad : Addr} {c : Nat} {u : Value} (hx : a.eval x = .slice (some ad) 1 c) (hu : w.cell? ad = some u) (h1 : u.oneCell' = true)
    (hn : (xs.length + 1) * bytes ≤ 140737488355328) (hn2 : xs.length + 1 ≤ maxLen) (hB : B ≤ w.heap.size)
    (hK : ∀ v' w', Own w' B e v' (xs ++ [u]) → w.grownBy w' v.ownBlock → wpList Try.prog ops Q rest (a.put o.dst v') w') :
    wpList Try.prog ops Q (o :: rest) a w := by
  obtain ⟨i0, hi, hz0, hz1, hz2⟩ := info_parts hinfo
  refine wpList_append_own w hg s x t hop B e i0 z 1 bytes ht hi hz0 hz1 hz2 hzs (by decide) v xs.length xs hs hown ad 1 c [u] hx rfl ?_ ?_ hn2 hn hB ?_
  · intro j y hy
    match j, hy with
    | 0, hy =>
      simp at hy; subst hy
      have : ad.add 0 = ad := by unfold Addr.add; split <;> simp_all
      rw [this]; exact hu
  · intro y hy; simp at hy; subst hy; exact h1
  · intro v' w' ho hgr _
    refine hK v' w' ?_ hgr
    unfold Own
    rw [List.length_append]
    exact ho
/-- 'append(s, ys...)' onto a slice of the call's own, as one operation. -/
theorem wp_app_row {w : World} {o : Oper} {a : Act} {K : Act → World → Prop} {Q : Exit → Act → World → Prop} (t e : TypeId) (z : Value) (bytes : Nat)
    (hinfo : (Try.prog.info? e).map (fun i => (i.zero, i.size, i.bytes)) = some (some z, 1, bytes)) (ht : Try.prog.underlying t = some (.slice e)) (hzs : z.cells.size = 1)
    (s x : Operand) (hop : o.op = .call { callee := .builtin .append, args := #[s, x], argTypes := #[t, t] })
    {B : Nat} {v u : Value} {xs ys : List Value} (hs : a.eval s = v) (hown : Own w B e v xs) (hx : a.eval x = u) (hrow : RowAt w u ys) (h1 : ∀ y ∈ ys, y.oneCell' = true)
    (hn : (xs.length + ys.length) * bytes ≤ 140737488355328) (hn2 : xs.length + ys.length ≤ maxLen) (hB : B ≤ w.heap.size)
    (hK : ∀ v' w', Own w' B e v' (xs ++ ys) → w.grownBy w' v.ownBlock → K (a.put o.dst v') w') : o.wp Try.prog a w K Q := by
  obtain ⟨i0, hi, hz0, hz1, hz2⟩ := info_parts hinfo
  have hrow' := hrow
  obtain ⟨ao, cap, rfl, _⟩ := hrow'
  rcases hrow.addr with ⟨rfl, hl, rfl, rfl⟩ | ⟨ad, rfl, _, hc⟩
  · have hr := run_append_owned_none (P := Try.prog) w B t o.type e i0 1 ht hi v xs.length xs hown
    unfold Oper.wp execOp
    simp only [List.length_nil] at hx
    simp only [hop, resolve, invoke, builtin, Sem.run_bind, Sem.run_pure, Result.andThen_ok, List.map_toArray, List.map_cons, List.map_nil, hs, hx, hr]
    exact hK v w (by rw [List.append_nil]; exact hown) (World.grownBy.refl _ _)
  · refine wp_append_own w s x t hop B e i0 z 1 bytes ht hi hz0 hz1 hz2 hzs (by decide) v xs.length xs hs hown ad ys.length cap ys hx (by simp) hc h1 hn2 hn hB ?_
    intro v' w' ho hgr _
    refine hK v' w' ?_ hgr
    unfold Own
    rw [List.length_append]
    exact ho
/-- .. as a step of a region that draws its order. -/
theorem step_app_row {w : World} {ops : Array Oper} {o : Oper} {a : Act} {K : Act → World → Prop} {Q : Exit → Act → World → Prop} {E : Prop} (hg : o.guard = none) (t e : TypeId) (z : Value) (bytes : Nat)
    (hinfo : (Try.prog.info? e).map (fun i => (i.zero, i.size, i.bytes)) = some (some z, 1, bytes)) (ht : Try.prog.underlying t = some (.slice e)) (hzs : z.cells.size = 1)
    (s x : Operand) (hop : o.op = .call { callee := .builtin .append, args := #[s, x], argTypes := #[t, t] })
    {B : Nat} {v u : Value} {xs ys : List Value} (hs : a.eval s = v) (hown : Own w B e v xs) (hx : a.eval x = u) (hrow : RowAt w u ys) (h1 : ∀ y ∈ ys, y.oneCell' = true)
    (hn : (xs.length + ys.length) * bytes ≤ 140737488355328) (hn2 : xs.length + ys.length ≤ maxLen) (hB : B ≤ w.heap.size)
    (hK : ∀ v' w', Own w' B e v' (xs ++ ys) → w.grownBy w' v.ownBlock → K (a.put o.dst v') w') :
    if Region.wanted o (yielded ops a.tmps) = true then Oper.wp Try.prog o a w K Q else E := by
  rw [if_pos (by simp [Region.wanted, hg])]
  exact wp_app_row t e z bytes hinfo ht hzs s x hop hs hown hx hrow h1 hn hn2 hB hK
/-- .. outside one. -/
theorem app_row {w : World} {ops : Array Oper} {rest : List Oper} {o : Oper} {a : Act} {Q : Exit → Act → World → Prop} (t e : TypeId) (z : Value) (bytes : Nat)
    (hinfo : (Try.prog.info? e).map (fun i => (i.zero, i.size, i.bytes)) = some (some z, 1, bytes)) (ht : Try.prog.underlying t = some (.slice e)) (hzs : z.cells.size = 1)
    (hg : o.guard = none) (s x : Operand) (hop : o.op = .call { callee := .builtin .append, args := #[s, x], argTypes := #[t, t] })
    {B : Nat} {v u : Value} {xs ys : List Value} (hs : a.eval s = v) (hown : Own w B e v xs) (hx : a.eval x = u) (hrow : RowAt w u ys) (h1 : ∀ y ∈ ys, y.oneCell' = true)
    (hn : (xs.length + ys.length) * bytes ≤ 140737488355328) (hn2 : xs.length + ys.length ≤ maxLen) (hB : B ≤ w.heap.size)
    (hK : ∀ v' w', Own w' B e v' (xs ++ ys) → w.grownBy w' v.ownBlock → wpList Try.prog ops Q rest (a.put o.dst v') w') :
    wpList Try.prog ops Q (o :: rest) a w :=
  wpList_plain hg fun K hK' => wp_app_row t e z bytes hinfo ht hzs s x hop hs hown hx hrow h1 hn hn2 hB fun v' w' h2 h3 => hK' _ _ (hK v' w' h2 h3)
theorem ints_one (xs : List Int) : ∀ y ∈ ints xs, y.oneCell' = true := by
  intro y hy
  simp only [ints, List.mem_map] at hy
  obtain ⟨_, _, rfl⟩ := hy
  rfl
theorem ints_append (xs ys : List Int) : ints (xs ++ ys) = ints xs ++ ints ys := by simp [ints]
/-- 'append(s, ys...)' at slices of integers. -/
theorem app_ints {w : World} {ops : Array Oper} {rest : List Oper} {o : Oper} {a : Act} {Q : Exit → Act → World → Prop} (hg : o.guard = none) (s x : Operand) (hop : o.op = .call { callee := .builtin .append, args := #[s, x], argTypes := #[38, 38] })
    {B : Nat} {v u : Value} {xs ys : List Int} (hs : a.eval s = v) (hown : OwnInts w B v xs) (hx : a.eval x = u) (hrow : IntsAt w u ys)
    (hn : xs.length + ys.length ≤ 17592186044416) (hB : B ≤ w.heap.size)
    (hK : ∀ v' w', OwnInts w' B v' (xs ++ ys) → w.grownBy w' v.ownBlock → wpList Try.prog ops Q rest (a.put o.dst v') w') :
    wpList Try.prog ops Q (o :: rest) a w := by
  refine app_row 38 3 (.int .i64 0) 8 Try.infoInt Try.underlying38 rfl hg s x hop hs hown hx hrow (ints_one _) (by rw [ints_len, ints_len]; omega) (by rw [ints_len, ints_len]; unfold maxLen; omega) hB ?_
  intro v' w' h2 h3
  rw [← ints_append] at h2
  exact hK v' w' h2 h3
theorem step_app_ints {w : World} {ops : Array Oper} {o : Oper} {a : Act} {K : Act → World → Prop} {Q : Exit → Act → World → Prop} {E : Prop} (hg : o.guard = none) (s x : Operand) (hop : o.op = .call { callee := .builtin .append, args := #[s, x], argTypes := #[38, 38] })
    {B : Nat} {v u : Value} {xs ys : List Int} (hs : a.eval s = v) (hown : OwnInts w B v xs) (hx : a.eval x = u) (hrow : IntsAt w u ys)
    (hn : xs.length + ys.length ≤ 17592186044416) (hB : B ≤ w.heap.size)
    (hK : ∀ v' w', OwnInts w' B v' (xs ++ ys) → w.grownBy w' v.ownBlock → K (a.put o.dst v') w') :
    if Region.wanted o (yielded ops a.tmps) = true then Oper.wp Try.prog o a w K Q else E := by
  refine step_app_row hg 38 3 (.int .i64 0) 8 Try.infoInt Try.underlying38 rfl s x hop hs hown hx hrow (ints_one _) (by rw [ints_len, ints_len]; omega) (by rw [ints_len, ints_len]; unfold maxLen; omega) hB ?_
  intro v' w' h2 h3
  rw [← ints_append] at h2
  exact hK v' w' h2 h3
/-- 'append(s, x)' at a slice of integers. -/
theorem app_int {w : World} {ops : Array Oper} {rest : List Oper} {o : Oper} {a : Act} {Q : Exit → Act → World → Prop} (hg : o.guard = none) (s x : Operand) (hop : o.op = .call { callee := .builtin .append, args := #[s, x], argTypes := #[38, 38] })
    {B : Nat} {v : Value} {xs : List Int} (hs : a.eval s = v) (hown : OwnInts w B v xs) {ad : Addr} {c : Nat} {y : Int} (hx : a.eval x = .slice (some ad) 1 c) (hu : w.cell? ad = some (.int .i64 y))
    (hn : xs.length + 1 ≤ 17592186044416) (hB : B ≤ w.heap.size)
    (hK : ∀ v' w', OwnInts w' B v' (xs ++ [y]) → w.grownBy w' v.ownBlock → wpList Try.prog ops Q rest (a.put o.dst v') w') :
    wpList Try.prog ops Q (o :: rest) a w := by
  refine app_one 38 3 (.int .i64 0) 8 Try.infoInt Try.underlying38 rfl hg s x hop hs hown hx hu rfl (by rw [ints_len]; omega) (by rw [ints_len]; unfold maxLen; omega) hB ?_
  intro v' w' h2 h3
  refine hK v' w' ?_ h3
  unfold OwnInts
  rw [ints_append]
  exact h2
/-- '[]int{}'. -/
theorem own_empty (w : World) : OwnInts (w.alloc (.cells #[] 3)) w.heap.size (.slice (some ⟨w.heap.size, 0, none⟩) 0 0) [] :=
  World.ownsRow_lit (size := 1) w #[] 0 (Nat.le_refl _) (by unfold maxLen; omega) rfl
theorem below_alloc (w : World) (o : Obj) : Below w.heap.size w (w.alloc o) := (Below.refl _ _).alloc (Nat.le_refl _) o
end Go.Proofs.Ytdjdagcgodpgdaa
/- How slices of slices of integers lie in memory, and the laws on make and append in these words. -/
set_option linter.unusedVariables false
namespace Go.Proofs.Ytdjdagcgodpgdaa
open Go.RowKit

/-! ### read -/

/-- v is a slice of slices that holds xss. -/
def RowsAt (w : World) (v : Value) (xss : List (List Int)) : Prop :=
  ∃ vs, RowAt w v vs ∧ vs.length = xss.length ∧ ∀ (k : Nat) (xs : List Int), xss[k]? = some xs → ∃ u, vs[k]? = some u ∧ IntsAt w u xs
theorem RowsAt.same {w w' : World} {v : Value} {xss : List (List Int)} (h : RowsAt w v xss) (hw : ∀ a x, w.cell? a = some x → w'.cell? a = some x) : RowsAt w' v xss := by
  obtain ⟨vs, h1, h2, h3⟩ := h
  refine ⟨vs, h1.same hw, h2, fun k xs hk => ?_⟩
  obtain ⟨u, a, b⟩ := h3 k xs hk
  exact ⟨u, a, b.same hw⟩
theorem RowsAt.below {w w' : World} {v : Value} {xss : List (List Int)} (h : RowsAt w v xss) (hb : Below w.heap.size w w') : RowsAt w' v xss := h.same (below_cells hb)
theorem RowsAt.drawn {w w' : World} {v : Value} {xss : List (List Int)} (h : RowsAt w v xss) (hd : Drawn w w') : RowsAt w' v xss := h.same hd.cells
theorem RowsAt.form {w : World} {v : Value} {xss : List (List Int)} (h : RowsAt w v xss) : ∃ ao cap, v = .slice ao xss.length cap ∧ (xss.length : Int) ≤ 9223372036854775807 ∧ xss.length ≤ cap ∧ (cap : Int) ≤ 9223372036854775807 := by
  obtain ⟨vs, h1, h2, h3⟩ := h
  rw [← h2]; exact h1.form
theorem RowsAt.cell {w : World} {ao : Option Addr} {n cap : Nat} {xss : List (List Int)} (h : RowsAt w (.slice ao n cap) xss) {k : Nat} (hk : k < xss.length) :
    ∃ b off u xs, ao = some ⟨b, off, none⟩ ∧ Hid (xss[k]? = some xs) ∧ w.cell? ⟨b, off + k, none⟩ = some u ∧ IntsAt w u xs := by
  obtain ⟨vs, h1, h2, h3⟩ := h
  obtain ⟨b, off, x, e, hx, hc⟩ := h1.cell (k := k) (by omega)
  obtain ⟨u, hu, hi⟩ := h3 k _ (List.getElem?_eq_getElem hk)
  have := hx.out
  rw [hu] at this
  obtain rfl := Option.some.inj this
  exact ⟨b, off, u, _, e, Lib.hid (List.getElem?_eq_getElem hk), hc, hi⟩
theorem RowsAt.nil (w : World) : RowsAt w (.slice none 0 0) [] := ⟨[], ⟨none, 0, rfl, Nat.le_refl _, by unfold maxLen; omega, fun _ => rfl, fun k x h => by simp at h⟩, rfl, fun k xs h => by simp at h⟩

/-! ### the call's own -/
def inB (v : Value) (E : Nat) : Prop := ∀ k, v.ownBlock = some k → k < E
def apart (u v : Value) : Prop := u.ownBlock = none ∨ u.ownBlock ≠ v.ownBlock
/-- v is a slice of slices of the call's own: all its rows lie in blocks of their own, from B up to E. -/
def OwnRows (w : World) (B E : Nat) (v : Value) (xss : List (List Int)) : Prop :=
  ∃ vs, Own w B 38 v vs ∧ inB v E ∧ vs.length = xss.length ∧
    (∀ (k : Nat) (xs : List Int), xss[k]? = some xs → ∃ u, vs[k]? = some u ∧ OwnInts w B u xs ∧ inB u E) ∧
    ∀ (i j : Nat) (u u' : Value), i < j → vs[i]? = some u → vs[j]? = some u' → apart u u'
theorem Own.block {w : World} {B : Nat} {T : TypeId} {v : Value} {xs : List Value} (h : Own w B T v xs) {k : Nat} (hk : v.ownBlock = some k) : ∃ cur, w.heap[k]? = some (.cells cur T (0, 0)) := by
  rcases h.2 with ⟨rfl, _⟩ | ⟨g, cap, cur, rfl, hb, hgg, rest⟩
  · simp [Value.ownBlock] at hk
  · simp only [Value.ownBlock, Option.some.injEq] at hk
    subst hk
    exact ⟨cur, hgg⟩
/-- An outer row and an inner one lie in two blocks: their elements are of two types. -/
theorem own_types {w : World} {B B' : Nat} {T T' : TypeId} {v u : Value} {xs ys : List Value} (h : Own w B T v xs) (k : Own w B' T' u ys) (hT : T ≠ T') : apart u v := by
  unfold apart
  cases hu : u.ownBlock with
  | none => exact .inl rfl
  | some b =>
    refine .inr fun e => ?_
    obtain ⟨c1, h1⟩ := k.block hu
    obtain ⟨c2, h2⟩ := h.block e.symm
    rw [h1] at h2
    cases h2
    exact hT rfl
theorem inB.mono {v : Value} {E E' : Nat} (h : inB v E) (hE : E ≤ E') : inB v E' := fun k hk => Nat.lt_of_lt_of_le (h k hk) hE
theorem Own.inBlk {w : World} {B : Nat} {T : TypeId} {v : Value} {xs : List Value} (h : Own w B T v xs) : inB v w.heap.size := fun k hk => (h.lt hk).2
/-- What changes lies in blocks from B up to E, or is new. -/
structure Touch (w w' : World) (B E : Nat) : Prop where
  os : w'.os = w.os
  tape : w'.tape = w.tape
  output : w'.output = w.output
  size : w.heap.size ≤ w'.heap.size
  block : ∀ k, k < w.heap.size → (k < B ∨ E ≤ k) → w'.heap[k]? = w.heap[k]?
theorem Touch.refl (w : World) (B E : Nat) : Touch w w B E := ⟨rfl, rfl, rfl, Nat.le_refl _, fun _ _ _ => rfl⟩
theorem Touch.trans {a b c : World} {B E : Nat} (h : Touch a b B E) (k : Touch b c B E) : Touch a c B E :=
  ⟨k.os.trans h.os, k.tape.trans h.tape, k.output.trans h.output, Nat.le_trans h.size k.size, fun i hi hr => (k.block i (Nat.lt_of_lt_of_le hi h.size) hr).trans (h.block i hi hr)⟩
theorem Touch.of_grown {w w' : World} {v : Value} {B E : Nat} (h : w.grownBy w' v.ownBlock) (hB : ∀ k, v.ownBlock = some k → B ≤ k ∧ k < E) : Touch w w' B E :=
  ⟨h.os, h.tape, h.output, h.size, fun k hk hr => h.block k hk fun e => by have := hB k e.symm; omega⟩
theorem Touch.of_below {w w' : World} (h : Below w.heap.size w w') (B E : Nat) : Touch w w' B E := ⟨h.os, h.tape, h.output, h.size, fun k hk _ => h.block k hk⟩
theorem Touch.below {w w' : World} {B E B0 : Nat} (h : Touch w w' B E) (hB : B0 ≤ B) (hw : B0 ≤ w.heap.size) : Below B0 w w' :=
  ⟨h.os, h.tape, h.output, h.size, fun k hk => h.block k (by omega) (.inl (by omega))⟩
theorem Own.touch {w w' : World} {B E B' E' : Nat} {T : TypeId} {v : Value} {xs : List Value} (h : Own w B T v xs) (hi : inB v E) (ht : Touch w w' B' E') (hd : E ≤ B' ∨ E' ≤ B) : Own w' B T v xs :=
  h.kept fun k hk => ht.block k (h.lt hk).2 (by have h1 := hi k hk; have h2 := (h.lt hk).1; omega)
theorem OwnInts.touch {w w' : World} {B E B' E' : Nat} {v : Value} {xs : List Int} (h : OwnInts w B v xs) (hi : inB v E) (ht : Touch w w' B' E') (hd : E ≤ B' ∨ E' ≤ B) : OwnInts w' B v xs := Own.touch h hi ht hd
theorem OwnRows.kept {w w' : World} {B E : Nat} {v : Value} {xss : List (List Int)} (h : OwnRows w B E v xss) (hw : ∀ k, B ≤ k → k < E → k < w.heap.size → w'.heap[k]? = w.heap[k]?) : OwnRows w' B E v xss := by
  obtain ⟨vs, h1, h2, h3, h4, h5⟩ := h
  refine ⟨vs, h1.kept fun k hk => hw k (h1.lt hk).1 (h2 k hk) (h1.lt hk).2, h2, h3, fun k xs hk => ?_, h5⟩
  obtain ⟨u, a, b, c⟩ := h4 k xs hk
  exact ⟨u, a, Own.kept b fun k hk => hw k (Own.lt b hk).1 (c k hk) (Own.lt b hk).2, c⟩
theorem OwnRows.below {w w' : World} {B E : Nat} {v : Value} {xss : List (List Int)} (h : OwnRows w B E v xss) (hb : Below w.heap.size w w') : OwnRows w' B E v xss := h.kept fun k _ _ hk => hb.block k hk
theorem OwnRows.drawn {w w' : World} {B E : Nat} {v : Value} {xss : List (List Int)} (h : OwnRows w B E v xss) (hd : Drawn w w') : OwnRows w' B E v xss := h.kept fun k _ _ _ => by rw [hd.heap]
theorem OwnRows.touch {w w' : World} {B E B' E' : Nat} {v : Value} {xss : List (List Int)} (h : OwnRows w B E v xss) (ht : Touch w w' B' E') (hd : E ≤ B' ∨ E' ≤ B) : OwnRows w' B E v xss :=
  h.kept fun k h1 h2 h3 => ht.block k h3 (by omega)
theorem OwnRows.mono {w : World} {B B' E E' : Nat} {v : Value} {xss : List (List Int)} (h : OwnRows w B E v xss) (hB : B' ≤ B) (hE : E ≤ E') : OwnRows w B' E' v xss := by
  obtain ⟨vs, h1, h2, h3, h4, h5⟩ := h
  refine ⟨vs, h1.mono hB, h2.mono hE, h3, fun k xs hk => ?_, h5⟩
  obtain ⟨u, a, b, c⟩ := h4 k xs hk
  exact ⟨u, a, Own.mono b hB, c.mono hE⟩
/-- All its blocks are there already. -/
theorem OwnRows.tight {w : World} {B E : Nat} {v : Value} {xss : List (List Int)} (h : OwnRows w B E v xss) : OwnRows w B w.heap.size v xss := by
  obtain ⟨vs, h1, h2, h3, h4, h5⟩ := h
  refine ⟨vs, h1, h1.inBlk, h3, fun k xs hk => ?_, h5⟩
  obtain ⟨u, a, b, c⟩ := h4 k xs hk
  exact ⟨u, a, b, Own.inBlk b⟩
theorem OwnRows.at {w : World} {B E : Nat} {v : Value} {xss : List (List Int)} (h : OwnRows w B E v xss) : RowsAt w v xss := by
  obtain ⟨vs, h1, h2, h3, h4, h5⟩ := h
  refine ⟨vs, h1.row, h3, fun k xs hk => ?_⟩
  obtain ⟨u, a, b, c⟩ := h4 k xs hk
  exact ⟨u, a, b.at⟩
theorem OwnRows.form {w : World} {B E : Nat} {v : Value} {xss : List (List Int)} (h : OwnRows w B E v xss) : ∃ ao cap, v = .slice ao xss.length cap ∧ (xss.length : Int) ≤ 9223372036854775807 ∧ xss.length ≤ cap ∧ (cap : Int) ≤ 9223372036854775807 := h.at.form
theorem OwnRows.nil (w : World) (B E : Nat) : OwnRows w B E (.slice none 0 0) [] :=
  ⟨[], Own.nil _ _ _, fun k hk => by simp [Value.ownBlock] at hk, rfl, fun k xs h => by simp at h, fun i j u u' _ h => by simp at h⟩
theorem OwnRows.head {w : World} {B E : Nat} {ao : Option Addr} {n cap : Nat} {xss : List (List Int)} (h : OwnRows w B E (.slice ao n cap) xss) (hn : 0 < xss.length) :
    ∃ g, ao = some ⟨g, 0, none⟩ ∧ B ≤ g ∧ g < w.heap.size ∧ g < E := by
  obtain ⟨vs, h1, h2, h3, h4, h5⟩ := h
  obtain ⟨g, rfl, a, b⟩ := h1.head (by omega)
  exact ⟨g, rfl, a, b, h2 g rfl⟩
theorem OwnRows.frozen {w : World} {B E : Nat} {g n cap : Nat} {xss : List (List Int)} (h : OwnRows w B E (.slice (some ⟨g, 0, none⟩) n cap) xss) (k : Nat) : w.frozen? ⟨g, k, none⟩ = false := by
  obtain ⟨vs, h1, h2, h3, h4, h5⟩ := h
  exact h1.frozen k
/-- The row at k: it is the call's own, too. -/
theorem OwnRows.cell {w : World} {B E : Nat} {g n cap : Nat} {xss : List (List Int)} (h : OwnRows w B E (.slice (some ⟨g, 0, none⟩) n cap) xss) {k : Nat} (hk : k < xss.length) :
    ∃ u xs, Hid (xss[k]? = some xs) ∧ w.cell? ⟨g, k, none⟩ = some u ∧ OwnInts w B u xs ∧ inB u E := by
  obtain ⟨vs, h1, h2, h3, h4, h5⟩ := h
  obtain ⟨u, a, b, c⟩ := h4 k _ (List.getElem?_eq_getElem hk)
  exact ⟨u, _, Lib.hid (List.getElem?_eq_getElem hk), h1.cell a, b, c⟩
/-- A row is put at k: it lies in a block that no other row has. -/
theorem OwnRows.put {w : World} {B E : Nat} {g n cap : Nat} {xss : List (List Int)} (h : OwnRows w B E (.slice (some ⟨g, 0, none⟩) n cap) xss) {u : Value} {xs : List Int} (hu : OwnInts w B u xs) (hf : ∀ b, u.ownBlock = some b → E ≤ b) (k : Nat) :
    OwnRows (w.setCell ⟨g, k, none⟩ u) B (max E w.heap.size) (.slice (some ⟨g, 0, none⟩) n cap) (xss.set k xs) := by
  obtain ⟨vs, h1, h2, h3, h4, h5⟩ := h
  have hgE : g < E := h2 g rfl
  have keep : ∀ {z : Value} {zs : List Int}, OwnInts w B z zs → OwnInts (w.setCell ⟨g, k, none⟩ u) B z zs := fun {z zs} hz =>
    Own.setOther hz u (by
      rcases own_types h1 hz (by decide) with e | e
      · rw [e]; simp
      · exact e)
  refine ⟨vs.set k u, h1.set k u, fun b hb => Nat.lt_of_lt_of_le (h2 b hb) (Nat.le_max_left _ _), by rw [List.length_set, List.length_set]; exact h3, fun i zs hi => ?_, ?_⟩
  · by_cases e : i = k
    · subst e
      have hil : i < xss.length := by have := (List.getElem?_eq_some_iff.1 hi).1; rw [List.length_set] at this; exact this
      rw [List.getElem?_set_self hil] at hi
      obtain rfl := Option.some.inj hi
      exact ⟨u, List.getElem?_set_self (by omega), keep hu, fun b hb => Nat.lt_of_lt_of_le (Own.lt hu hb).2 (Nat.le_max_right _ _)⟩
    · rw [List.getElem?_set_ne (fun h => e h.symm)] at hi
      obtain ⟨z, a, b, c⟩ := h4 i zs hi
      exact ⟨z, by rw [List.getElem?_set_ne (fun h => e h.symm)]; exact a, keep b, c.mono (Nat.le_max_left _ _)⟩
  · intro i j z z' hij hz hz'
    have old : ∀ {i : Nat} {z : Value}, vs[i]? = some z → inB z E := fun {i z} hz => by
      obtain ⟨hl, _⟩ := List.getElem?_eq_some_iff.1 hz
      obtain ⟨z2, a, _, c⟩ := h4 i _ (List.getElem?_eq_getElem (by omega))
      rw [hz] at a
      obtain rfl := Option.some.inj a
      exact c
    by_cases e1 : i = k
    · subst e1
      have hil : i < vs.length := by have := (List.getElem?_eq_some_iff.1 hz).1; rw [List.length_set] at this; exact this
      rw [List.getElem?_set_self hil] at hz
      obtain rfl := Option.some.inj hz
      rw [List.getElem?_set_ne (by omega)] at hz'
      have hi2 := old hz'
      unfold apart
      cases hb : u.ownBlock with
      | none => exact .inl rfl
      | some b =>
        refine .inr fun e => ?_
        have h1 := hf b hb
        have h2 := hi2 b e.symm
        omega
    · rw [List.getElem?_set_ne (fun h => e1 h.symm)] at hz
      by_cases e2 : j = k
      · subst e2
        have hil : j < vs.length := by have := (List.getElem?_eq_some_iff.1 hz').1; rw [List.length_set] at this; exact this
        rw [List.getElem?_set_self hil] at hz'
        obtain rfl := Option.some.inj hz'
        have hi2 := old hz
        unfold apart
        cases hb : z.ownBlock with
        | none => exact .inl rfl
        | some b =>
          refine .inr fun e => ?_
          have h1 := hf b e.symm
          have h2 := hi2 b hb
          omega
      · rw [List.getElem?_set_ne (fun h => e2 h.symm)] at hz'
        exact h5 i j z z' hij hz hz'
/-- The row at k changes in place. -/
theorem OwnRows.turn {w w' : World} {B E : Nat} {v : Value} {xss : List (List Int)} (h : OwnRows w B E v xss) {k : Nat} {u : Value} {xs ys : List Int} (hl : xs.length = ys.length)
    (hk : xss[k]? = some xs) (hu : OwnInts w B u xs) (hub : ∀ g n cap, v = .slice (some ⟨g, 0, none⟩) n cap → w.cell? ⟨g, k, none⟩ = some u) (hu' : OwnInts w' B u ys) (hg : w.grownBy w' u.ownBlock) :
    OwnRows w' B E v (xss.set k ys) := by
  obtain ⟨vs, h1, h2, h3, h4, h5⟩ := h
  have hkl : k < xss.length := (List.getElem?_eq_some_iff.1 hk).1
  obtain ⟨u0, hu0, hu1, hu2⟩ := h4 k xs hk
  obtain rfl : u0 = u := by
    rcases h1.2 with ⟨rfl, hn⟩ | ⟨g, cap, cur, rfl, _⟩
    · omega
    · have a := hub g _ cap rfl
      rw [h1.cell hu0] at a
      exact Option.some.inj a
  have hu0a : apart u0 v := own_types h1 hu1 (by decide)
  refine ⟨vs, h1.kept fun b hb => hg.block b (h1.lt hb).2 ?_, h2, by rw [List.length_set]; exact h3, fun i zs hi => ?_, h5⟩
  · intro e
    rcases hu0a with e' | e'
    · rw [e'] at e; cases e
    · exact e' (by rw [hb, ← e])
  · by_cases e : i = k
    · subst e
      rw [List.getElem?_set_self hkl] at hi
      obtain rfl := Option.some.inj hi
      exact ⟨u0, hu0, hu', hu2⟩
    · rw [List.getElem?_set_ne (fun h => e h.symm)] at hi
      obtain ⟨z, a, b, c⟩ := h4 i zs hi
      refine ⟨z, a, Own.kept b fun q hq => hg.block q (Own.lt b hq).2 ?_, c⟩
      intro eq
      rcases Nat.lt_or_gt_of_ne e with hlt | hlt
      · rcases h5 i k z u0 hlt a hu0 with e' | e'
        · rw [e'] at hq; cases hq
        · exact e' (by rw [hq, ← eq])
      · rcases h5 k i u0 z hlt hu0 a with e' | e'
        · rw [e'] at eq; cases eq
        · exact e' (by rw [hq, ← eq])

/-! ### make, append -/
theorem Try.infoInts : (Try.prog.info? 38).map (fun i => (i.zero, i.size, i.bytes)) = some (some (.slice none 0 0), 1, 24) := by kernel_rfl
/-- 'make([][]int, n)'. -/
theorem mk_rows {w : World} {ops : Array Oper} {rest : List Oper} {o : Oper} {a : Act} {Q : Exit → Act → World → Prop}
    (hg : o.guard = none) (l c : Operand) (hop : o.op = Op.makeSlice 22 l c) {C : Int} (hl : a.eval l = .int .i64 C) (hc : a.eval c = .int .i64 C) (n : Nat) (hC : C = n) (hn : n ≤ 1099511627776)
    (hK : ∀ w', OwnRows w' w.heap.size w'.heap.size (.slice (some ⟨w.heap.size, 0, none⟩) n n) (List.replicate n []) → Below w.heap.size w w' → w.heap.size < w'.heap.size → wpList Try.prog ops Q rest (a.put o.dst (.slice (some ⟨w.heap.size, 0, none⟩) n n)) w') :
    wpList Try.prog ops Q (o :: rest) a w := by
  obtain ⟨i0, hi, hz0, hz1, hz2⟩ := info_parts Try.infoInts
  refine wpList_make_full w hg l c 22 hop w.heap.size 38 i0 (.slice none 0 0) 1 Try.underlying22 hi hz0 hz1 .i64 .i64 C C n hl hc hC hC (by rw [hz2]; omega) (by unfold maxLen; omega) (Nat.le_refl _) ?_
  intro w' hown hgr
  have e : (madeCells (Value.slice none 0 0).cells (n * 1)).toList = List.replicate n (.slice none 0 0) := by
    rw [Nat.mul_one]
    show (madeCells #[Value.slice none 0 0] n).toList = _
    rw [toList_madeCells_one]
  rw [e] at hown
  have ho : Own w' w.heap.size 38 (.slice (some ⟨w.heap.size, 0, none⟩) n n) (List.replicate n (.slice none 0 0)) := by
    unfold Own; rw [List.length_replicate]; exact hown
  refine hK w' ⟨_, ho, ho.inBlk, by simp, fun k xs hk => ?_, fun i j u u' _ h _ => ?_⟩ (below_of_grown hgr (Nat.le_refl _) (fun k hk => by cases hk)) (hown.lt _ rfl).2
  · obtain ⟨h1, h2⟩ := List.getElem?_eq_some_iff.1 hk
    rw [List.getElem_replicate] at h2
    subst h2
    exact ⟨.slice none 0 0, by rw [List.getElem?_replicate, if_pos (by simpa using h1)], Own.nil _ _ _, fun k hk => by simp [Value.ownBlock] at hk⟩
  · obtain ⟨h1, h2⟩ := List.getElem?_eq_some_iff.1 h
    rw [List.getElem_replicate] at h2
    subst h2
    exact .inl rfl
/-- 'append(s, row)' of one row, of a block of its own. -/
theorem app_rows {w : World} {ops : Array Oper} {rest : List Oper} {o : Oper} {a : Act} {Q : Exit → Act → World → Prop} (hg : o.guard = none) (s x : Operand) (hop : o.op = .call { callee := .builtin .append, args := #[s, x], argTypes := #[22, 22] })
    {B E : Nat} {v u : Value} {xss : List (List Int)} {xs : List Int} (hs : a.eval s = v) (hown : OwnRows w B E v xss) {ad : Addr} {c : Nat} (hx : a.eval x = .slice (some ad) 1 c) (hu : w.cell? ad = some u)
    (hrow : OwnInts w B u xs) (hf : ∀ b, u.ownBlock = some b → E ≤ b)
    (hn : xss.length + 1 ≤ 1099511627776) (hB : B ≤ w.heap.size)
    (hK : ∀ v' w', OwnRows w' B w'.heap.size v' (xss ++ [xs]) → Touch w w' B E → wpList Try.prog ops Q rest (a.put o.dst v') w') :
    wpList Try.prog ops Q (o :: rest) a w := by
  obtain ⟨vs, h1, h2, h3, h4, h5⟩ := hown
  have h1c : u.oneCell' = true := by
    obtain ⟨_, _, rfl, _⟩ := Own.form hrow
    rfl
  refine app_one 22 38 (.slice none 0 0) 24 Try.infoInts Try.underlying22 rfl hg s x hop hs h1 hx hu h1c (by rw [h3]; omega) (by rw [h3]; unfold maxLen; omega) hB ?_
  intro v' w' ho hgr
  have keep : ∀ {z : Value} {zs : List Int}, OwnInts w B z zs → OwnInts w' B z zs := fun {z zs} hz => Own.grown hz hgr (own_types h1 hz (by decide))
  refine hK v' w' ⟨_, ho, ho.inBlk, by simp [h3], fun k zs hk => ?_, fun i j z z' hij hz hz' => ?_⟩ (Touch.of_grown hgr fun k hk => ⟨(h1.lt hk).1, h2 k hk⟩)
  · by_cases e : k < xss.length
    · rw [List.getElem?_append_left e] at hk
      obtain ⟨z, a, b, c⟩ := h4 k zs hk
      exact ⟨z, by rw [List.getElem?_append_left (by omega)]; exact a, keep b, Own.inBlk (keep b)⟩
    · have hk' := (List.getElem?_eq_some_iff.1 hk).1
      rw [List.length_append, List.length_singleton] at hk'
      obtain rfl : k = xss.length := by omega
      rw [List.getElem?_append_right (Nat.le_refl _), Nat.sub_self] at hk
      simp at hk
      subst hk
      exact ⟨u, by rw [← h3, List.getElem?_append_right (Nat.le_refl _), Nat.sub_self]; rfl, keep hrow, Own.inBlk (keep hrow)⟩
  · have old : ∀ {i : Nat} {z : Value}, vs[i]? = some z → inB z E := fun {i z} hz => by
      obtain ⟨hl, _⟩ := List.getElem?_eq_some_iff.1 hz
      obtain ⟨z2, a, _, c⟩ := h4 i _ (List.getElem?_eq_getElem (by omega))
      rw [hz] at a
      obtain rfl := Option.some.inj a
      exact c
    by_cases ej : j < vs.length
    · rw [List.getElem?_append_left (by omega)] at hz
      rw [List.getElem?_append_left ej] at hz'
      exact h5 i j z z' hij hz hz'
    · have hj' := (List.getElem?_eq_some_iff.1 hz').1
      rw [List.length_append, List.length_singleton] at hj'
      obtain rfl : j = vs.length := by omega
      rw [List.getElem?_append_right (Nat.le_refl _), Nat.sub_self] at hz'
      simp at hz'
      subst hz'
      rw [List.getElem?_append_left hij] at hz
      have hi2 := old hz
      unfold apart
      cases hb : z.ownBlock with
      | none => exact .inl rfl
      | some b =>
        refine .inr fun e => ?_
        have a := hf b e.symm
        have c := hi2 b hb
        omega
/-- '[][]int{}'. -/
theorem own_rows_empty (w : World) : OwnRows (w.alloc (.cells #[] 38)) w.heap.size (w.heap.size + 1) (.slice (some ⟨w.heap.size, 0, none⟩) 0 0) [] :=
  ⟨[], World.ownsRow_lit (size := 1) w #[] 0 (Nat.le_refl _) (by unfold maxLen; omega) rfl, (fun k hk => by cases hk; exact Nat.lt_succ_self _), rfl, fun k xs h => by simp at h, fun i j u u' _ h => by simp at h⟩
end Go.Proofs.Ytdjdagcgodpgdaa
/- What the program's functions on integers compute: each function's contract, whatever follows the call (Q). -/
namespace Go.Proofs.Ytdjdagcgodpgdaa
open Go.RowKit

theorem boolq {Q : Ending → World → Prop} {b b' : Bool} {w : World} (h : Q (.returned (.bool b)) w) (e : b = true ↔ b' = true) : Q (.returned (.bool b')) w := by
  rw [← Bool.eq_iff_iff.2 e]; exact h
theorem intq {Q : Ending → World → Prop} {n n' : Int} {k : IntKind} {w : World} (h : Q (.returned (.int k n)) w) (e : n = n') : Q (.returned (.int k n')) w := by
  rw [← e]; exact h

set_option maxHeartbeats 400000 in
theorem l01In_c {n lo hi : Int} {w : World} {Q : Ending → World → Prop} (hQ : Q (.returned (.bool (decide (lo ≤ n ∧ n ≤ hi)))) w) :
    Calls Try.prog 51 #[.int .i64 n, .int .i64 lo, .int .i64 hi] w Q := by
  have H := Lib.hid hQ; clear hQ
  go_enter Try.func51, Try.ntmps51
  go_wp2
  all_goals (refine boolq H.out ?_; simp; omega)

set_option maxHeartbeats 400000 in
theorem AreOpposite_i {a b : Int} {w : World} {Q : Ending → World → Prop} (hQ : Q (.returned (.bool (Nums.opp a b))) w) :
    Calls Try.prog 26 #[.int .i64 a, .int .i64 b] w Q := by
  have H := Lib.hid hQ; clear hQ
  go_enter Try.func26, Try.ntmps26
  go_wp2
  all_goals (refine boolq H.out ?_; simp [Nums.opp]; try omega)
set_option maxHeartbeats 400000 in
theorem SolidDegree_i {a : Int} {w : World} {Q : Ending → World → Prop} (hQ : Q (.returned (.int .i64 (Nums.sdeg a))) w) :
    Calls Try.prog 21 #[.int .i64 a] w Q := by
  have H := Lib.hid hQ; clear hQ
  go_enter Try.func21, Try.ntmps21
  go_wp2
  all_goals go_tidy
  all_goals (refine intq H.out ?_; simp_all [Nums.sdeg])
set_option maxHeartbeats 400000 in
theorem SolidDegree_s {a : Int} {w : World} {Q : Ending → World → Prop} (hQ : Q (.returned (.int .i64 (Nums.sdeg a))) w) :
    Calls Try.prog 27 #[.int .i64 a] w Q := by
  have H := Lib.hid hQ; clear hQ
  go_enter Try.func27, Try.ntmps27
  go_wp2
  all_goals go_tidy
  all_goals (refine intq H.out ?_; simp_all [Nums.sdeg])
set_option maxHeartbeats 400000 in
theorem power_i {k n : Int} {w : World} {Q : Ending → World → Prop} (h0 : 0 ≤ k) (h4 : k ≤ 4) (hn0 : 0 ≤ n) (hn : n ≤ 11) (hQ : Q (.returned (.int .i64 (Nums.pw k n))) w) :
    Calls Try.prog 70 #[.int .i64 k, .int .i64 n] w Q := by
  have H := Lib.hid hQ; clear hQ
  go_enter Try.func70, Try.ntmps70
  go_wp2
  go_loopg [5, 7] n.toNat (fun g o i wr => Hid (wr = w) ∧ ∃ (x : Int) (j : Nat), o = .int .i64 x ∧ i = .int .i64 j ∧ Hid (x = Nums.powTo k j) ∧ (j : Int) + g ≤ n ∧ n ≤ (j : Int) + g)
  case atStart => exact ⟨Lib.hid rfl, 1, 0, rfl, rfl, Lib.hid rfl, by omega, by omega⟩
  case round =>
    obtain ⟨hw, x, j, rfl, rfl, hx, hk1, hk2⟩ := hrel
    obtain rfl := hw.out
    clear hw
    by_cases hj : (j : Int) < n
    · have hb : 0 ≤ x * k ∧ x * k ≤ 4194304 := by
        have := Nums.powTo_bd h0 h4 (j := j + 1) (by omega)
        rw [hx.out]; exact this
      obtain ⟨hb1, hb2⟩ := hb
      go_wp2
      go_roundg (gk - 1)
      case measure => omega
      case rel => exact ⟨Lib.hid rfl, x * k, j + 1, by go_num, by go_num, Lib.hid (by rw [hx.out]; rfl), by omega, by omega⟩
    · go_wp2
      refine intq H.out ?_
      rw [hx.out, Nums.pw, show n.toNat = j from by omega]
set_option maxHeartbeats 400000 in
theorem power_s {k n : Int} {w : World} {Q : Ending → World → Prop} (h0 : 0 ≤ k) (h4 : k ≤ 4) (hn0 : 0 ≤ n) (hn : n ≤ 11) (hQ : Q (.returned (.int .i64 (Nums.pw k n))) w) :
    Calls Try.prog 68 #[.int .i64 k, .int .i64 n] w Q := by
  have H := Lib.hid hQ; clear hQ
  go_enter Try.func68, Try.ntmps68
  go_wp2
  go_loopg [5, 6] n.toNat (fun g o i wr => Hid (wr = w) ∧ ∃ (x : Int) (j : Nat), o = .int .i64 x ∧ i = .int .i64 j ∧ Hid (x = Nums.powTo k j) ∧ (j : Int) + g ≤ n ∧ n ≤ (j : Int) + g)
  case atStart => exact ⟨Lib.hid rfl, 1, 0, rfl, rfl, Lib.hid rfl, by omega, by omega⟩
  case round =>
    obtain ⟨hw, x, j, rfl, rfl, hx, hk1, hk2⟩ := hrel
    obtain rfl := hw.out
    clear hw
    by_cases hj : (j : Int) < n
    · have hb : 0 ≤ x * k ∧ x * k ≤ 4194304 := by
        have := Nums.powTo_bd h0 h4 (j := j + 1) (by omega)
        rw [hx.out]; exact this
      obtain ⟨hb1, hb2⟩ := hb
      go_wp2
      go_roundg (gk - 1)
      case measure => omega
      case rel => exact ⟨Lib.hid rfl, x * k, j + 1, by go_num, by go_num, Lib.hid (by rw [hx.out]; rfl), by omega, by omega⟩
    · go_wp2
      refine intq H.out ?_
      rw [hx.out, Nums.pw, show n.toNat = j from by omega]
end Go.Proofs.Ytdjdagcgodpgdaa
/- The identity. -/
set_option linter.unusedVariables false
namespace Go.Proofs.Ytdjdagcgodpgdaa
open Go.RowKit

theorem Perms.iota_snoc (n : Nat) : Perms.iota (n + 1) = Perms.iota n ++ [(n : Int)] := by
  unfold Perms.iota
  rw [List.range_succ, List.map_append]
  rfl
set_option maxHeartbeats 800000 in
theorem IdentityPerm_i {n : Nat} {w : World} {Q : Ending → World → Prop} (hn1 : 1 ≤ n) (hn : n ≤ 10)
    (hQ : ∀ v w', OwnInts w' w.heap.size v (Perms.iota n) → Below w.heap.size w w' → Q (.returned v) w') :
    Calls Try.prog 62 #[.int .i64 n] w Q := by
  have H := Lib.hid hQ; clear hQ
  have h1 : ¬ ((n : Int) < 1) := by omega
  have h2 : ¬ ((10 : Int) < n) := by omega
  go_enter Try.func62, Try.ntmps62
  go_wp2_with (at_make; refine mk_ints rfl (.tmp 11) (.tmp 11) rfl rfl rfl n rfl (by omega) ?_; intro w1 ho1 hb1 hs1)
  go_loopg [15] n (fun g u15 wr => ∃ (j : Nat), u15 = .int .i64 j ∧ OwnInts wr w.heap.size (.slice (some ⟨w.heap.size, 0, none⟩) n n) ((Perms.iota n).take j ++ List.replicate (n - j) 0) ∧ Below w.heap.size w wr ∧ j + g ≤ n ∧ n ≤ j + g)
  case atStart => exact ⟨0, rfl, by simpa using ho1, hb1, by omega, by omega⟩
  case round =>
    obtain ⟨j, rfl, ho, hbw, hm1, hm2⟩ := hrel
    have hil : (Perms.iota n).length = n := Perms.iota_len n
    by_cases hj : j < n
    · have hjI : (j : Int) < n := by omega
      have hst := fill_step (xs := Perms.iota n) (n := n) (z := (0 : Int)) hj (Perms.iota_get hj)
      obtain ⟨x, hx, hcx⟩ := OwnInts.cell ho (k := j) (by simp; omega)
      have hfr := Own.frozen ho j
      have ho2 := OwnInts.set ho j (j : Int)
      rw [hst] at ho2
      have hst' := Lib.hid hst
      have ho2' := Lib.hid ho2
      have hg2 := grown_set wr w.heap.size j (.int .i64 (j : Int))
      have hb2 := hbw.grown hg2 hbw.size (fun b hb => by cases hb; exact Nat.le_refl _)
      clear hst ho2 hil
      go_wp2_with fail
      go_roundg (gk - 1)
      case measure => omega
      case rel => exact ⟨j + 1, by go_num, ho2'.out, hb2, by omega, by omega⟩
    · rw [fill_end (by omega) (by omega)] at ho
      have h3 := Lib.hid (H.out _ _ ho hbw)
      clear hil
      go_wp2_with fail
      exact h3.out
set_option maxHeartbeats 800000 in
theorem IdentityPerm_s {n : Nat} {w : World} {Q : Ending → World → Prop} (hn1 : 1 ≤ n) (hn : n ≤ 10)
    (hQ : ∀ v w', OwnInts w' w.heap.size v (Perms.iota n) → Below w.heap.size w w' → Q (.returned v) w') :
    Calls Try.prog 53 #[.int .i64 n] w Q := by
  have H := Lib.hid hQ; clear hQ
  have hd : Hid (decide ((1 : Int) ≤ n ∧ (n : Int) ≤ 10) = true) := Lib.hid (decide_eq_true (by omega))
  go_enter Try.func53, Try.ntmps53
  go_wp2_with (go_at_call 51; refine l01In_c ?_; rw [hd.out])
  have o0 := own_empty w
  have b0 := below_alloc w (.cells #[] 3)
  go_loopg [3, 4] n (fun g u3 u4 wr => ∃ (j : Nat), u4 = .int .i64 j ∧ OwnInts wr w.heap.size u3 (Perms.iota j) ∧ Below w.heap.size w wr ∧ j + g ≤ n ∧ n ≤ j + g)
  case atStart => exact ⟨0, rfl, o0, b0, by omega, by omega⟩
  case round =>
    obtain ⟨j, rfl, ho, hbw, hm1, hm2⟩ := hrel
    obtain ⟨a3, c3, rfl, _, _, _⟩ := Own.form ho
    have hil : (Perms.iota j).length ≤ 10 := by rw [Perms.iota_len]; omega
    by_cases hj : j < n
    · have hjI : (j : Int) < n := by omega
      go_wp2_with (at_builtin; refine app_int rfl (.tmp 14) (.tmp 16) rfl rfl (OwnInts.below ho (below_alloc wr _)) rfl (cell_new _ _ _) (by omega) (by have := hbw.size; simp; omega) ?_; intro v2 w2 o2 g2)
      rw [← Perms.iota_snoc] at o2
      have hs2 := g2.size
      have hbs := hbw.size
      have hb2 : Below w.heap.size w w2 := (hbw.alloc hbw.size _).grown g2 (by simp; omega) (fun b hb => (Own.lt ho hb).1)
      go_roundg (gk - 1)
      case measure => omega
      case rel => exact ⟨j + 1, by go_num, o2, hb2, by omega, by omega⟩
    · obtain rfl : j = n := by omega
      have h3 := Lib.hid (H.out _ _ ho hbw)
      go_wp2_with fail
      exact h3.out
end Go.Proofs.Ytdjdagcgodpgdaa
/- What the laws' own helpers do: copies, comparisons and marks of slices of integers. -/
set_option linter.unusedVariables false
namespace Go.Proofs.Ytdjdagcgodpgdaa
open Go.RowKit

set_option maxHeartbeats 400000 in
theorem eqIntS_c {va vb : Value} {xs ys : List Int} {w : World} {Q : Ending → World → Prop} (ha : IntsAt w va xs) (hb : IntsAt w vb ys) (hQ : ∀ w', Drawn w w' → Q (.returned (.bool (decide (xs = ys)))) w') :
    Calls Try.prog 36 #[va, vb] w Q := by
  have H := Lib.hid hQ; clear hQ
  obtain ⟨aa, ca, rfl, la, lca, cca⟩ := ha.form
  obtain ⟨ab, cb, rfl, lb, lcb, ccb⟩ := hb.form
  by_cases hl : xs.length = ys.length
  · have hl' : ((xs.length : Int) != ys.length) = false := by rw [hl]; simp
    have hl'' := Lib.hid hl
    clear hl
    go_enter Try.func36, Try.ntmps36
    go_wp2
    go_loopg [5] xs.length (fun k i wr => Drawn w wr ∧ ∃ j : Nat, i = .int .i64 j ∧ Hid (xs.take j = ys.take j) ∧ j + k ≤ xs.length ∧ xs.length ≤ j + k)
    case atStart => exact ⟨Drawn.refl w, 0, rfl, Lib.hid rfl, by omega, by omega⟩
    case round =>
      obtain ⟨hw, j, rfl, hg, hk1, hk2⟩ := hrel
      by_cases hj : j < xs.length
      · have hjy : j < ys.length := by have := hl''.out; omega
        have haw := ha.drawn hw
        have hbw := hb.drawn hw
        obtain ⟨ba, oa, x, rfl, hx, hcx⟩ := haw.cell hj
        obtain ⟨bb, ob, y, rfl, hy, hcy⟩ := hbw.cell hjy
        have i1 : (j : Int) < xs.length := by omega
        have i2 : (j : Int) < ys.length := by omega
        by_cases hxy : x = y
        · subst hxy
          have hne : (x != x) = false := by simp
          go_wp2
          go_quiet (fail)
          go_wp2
          go_roundg (gk - 1)
          case measure => omega
          case rel => exact ⟨hw.next nq, j + 1, by go_num, Lib.hid (by rw [List.take_add_one, List.take_add_one, hx.out, hy.out, hg.out]), by omega, by omega⟩
        · have hne : (x != y) = true := by simpa using hxy
          have hf : Hid (decide (xs = ys) = false) := Lib.hid (by
            rw [decide_eq_false_iff_not]
            intro e
            have h1 := hx.out
            rw [e, hy.out] at h1
            exact hxy (Option.some.inj h1).symm)
          clear hxy
          go_wp2
          go_quiet (fail)
          go_wp2
          have hq := H.out _ (hw.next nq)
          rw [hf.out] at hq
          simpa using hq
      · go_wp2
        have e : xs = ys := by
          have h1 := hg.out
          have h2 := hl''.out
          rw [List.take_of_length_le (by omega), List.take_of_length_le (by omega)] at h1
          exact h1
        have hq := H.out _ hw
        rw [decide_eq_true e] at hq
        exact hq
  · have hl' : ((xs.length : Int) != ys.length) = true := by simp; omega
    have hf : Hid (decide (xs = ys) = false) := Lib.hid (by rw [decide_eq_false_iff_not]; intro e; exact hl (by rw [e]))
    clear hl
    go_enter Try.func36, Try.ntmps36
    go_wp2
    have hq := H.out _ (Drawn.refl w)
    rw [hf.out] at hq
    exact hq
set_option maxHeartbeats 400000 in
theorem markIntS_c {v : Value} {xs : List Int} {k : Int} {B : Nat} {w : World} {Q : Ending → World → Prop} (ho : OwnInts w B v xs) (hk0 : 0 ≤ k) (hk : k ≤ 4611686018427387904) (hn : xs.length ≤ 4611686018427387) 
    (hQ : ∀ w', OwnInts w' B v (marks k xs.length) → w.grownBy w' v.ownBlock → Q (.returned (.int .i64 (k + xs.length))) w') :
    Calls Try.prog 37 #[v, .int .i64 k] w Q := by
  have H := Lib.hid hQ; clear hQ
  obtain ⟨aa, ca, rfl, la, lca, cca⟩ := Own.form ho
  rw [ints_len] at *
  go_enter Try.func37, Try.ntmps37
  go_wp2
  go_loopg [1, 5] xs.length (fun g x i wr => ∃ j : Nat, x = .int .i64 (k + j) ∧ i = .int .i64 j ∧ OwnInts wr B (.slice aa xs.length ca) (marks k j ++ xs.drop j) ∧ w.grownBy wr (Value.ownBlock (.slice aa xs.length ca)) ∧ j + g ≤ xs.length ∧ xs.length ≤ j + g)
  case atStart => exact ⟨0, by simp, rfl, by simpa [marks] using ho, World.grownBy.refl _ _, by omega, by omega⟩
  case round =>
    obtain ⟨j, rfl, rfl, hr, hg, hk1, hk2⟩ := hrel
    have hl : (marks k j ++ xs.drop j).length = j + (xs.length - j) := by rw [List.length_append, marks_len, List.length_drop]
    by_cases hj : j < xs.length
    · have i1 : (j : Int) < xs.length := by omega
      obtain ⟨b, rfl, hb1, hb2⟩ := Own.head hr (by rw [ints_len, hl]; omega)
      have hfr := Own.frozen hr j
      obtain ⟨x0, _, hc0⟩ := OwnInts.cell hr (k := j) (by rw [hl]; omega)
      have hl' := Lib.hid hl
      clear hl
      go_wp2
      go_roundg (gk - 1)
      case measure => omega
      case rel =>
        have ho' := OwnInts.set hr j (k + j)
        rw [marks_step hj] at ho'
        exact ⟨j + 1, by go_num, by go_num, ho', grown_trans hg (grown_set _ _ _ _), by omega, by omega⟩
    · have hl' := Lib.hid hl
      clear hl
      go_wp2
      have e : j = xs.length := by omega
      subst e
      rw [List.drop_length, List.append_nil] at hr
      exact H.out _ hr hg
set_option maxHeartbeats 400000 in
theorem heldIntS_c {v : Value} {k : Int} {n : Nat} {w : World} {Q : Ending → World → Prop} (ho : IntsAt w v (marks k n)) (hk0 : 0 ≤ k) (hk : k ≤ 4611686018427387904) (hn : n ≤ 4611686018427387) 
    (hQ : Q (.returned (.int .i64 (k + n))) w) :
    Calls Try.prog 38 #[v, .int .i64 k] w Q := by
  have H := Lib.hid hQ; clear hQ
  obtain ⟨aa, ca, rfl, la, lca, cca⟩ := ho.form
  rw [marks_len] at *
  go_enter Try.func38, Try.ntmps38
  go_wp2
  go_loopg [1, 5] n (fun g x i wr => Hid (wr = w) ∧ ∃ j : Nat, x = .int .i64 (k + j) ∧ i = .int .i64 j ∧ j + g ≤ n ∧ n ≤ j + g)
  case atStart => exact ⟨Lib.hid rfl, 0, by simp, rfl, by omega, by omega⟩
  case round =>
    obtain ⟨hw, j, rfl, rfl, hk1, hk2⟩ := hrel
    obtain rfl := hw.out
    clear hw
    by_cases hj : j < n
    · have i1 : (j : Int) < n := by omega
      obtain ⟨b, off, x, rfl, hx, hc⟩ := ho.cell (k := j) (by rw [marks_len]; exact hj)
      have hx' := hx.out
      rw [marks_get k hj] at hx'
      obtain rfl := Option.some.inj hx'
      clear hx' hx
      go_wp2
      go_roundg (gk - 1)
      case measure => omega
      case rel => exact ⟨Lib.hid rfl, j + 1, by go_num, by go_num, by omega, by omega⟩
    · obtain rfl : j = n := by omega
      go_wp2
      exact H.out
end Go.Proofs.Ytdjdagcgodpgdaa
/- What the laws' own helpers do with slices of slices of integers. -/
set_option linter.unusedVariables false
namespace Go.Proofs.Ytdjdagcgodpgdaa
open Go.RowKit

/-- The lengths of the rows, added up. -/
def sumLen : List (List Int) → Nat
  | [] => 0
  | xs :: xss => xs.length + sumLen xss
theorem sumLen_append : ∀ a b : List (List Int), sumLen (a ++ b) = sumLen a + sumLen b
  | [], b => by simp [sumLen]
  | x :: a, b => by simp only [List.cons_append, sumLen, sumLen_append a b]; omega
theorem sumLen_take {xss : List (List Int)} {j : Nat} {xs : List Int} (h : xss[j]? = some xs) : sumLen (xss.take (j + 1)) = sumLen (xss.take j) + xs.length := by
  rw [List.take_add_one, h, sumLen_append]; simp [sumLen]
theorem sumLen_take_le (xss : List (List Int)) (j : Nat) : sumLen (xss.take j) ≤ sumLen xss := by
  have := sumLen_append (xss.take j) (xss.drop j)
  rw [List.take_append_drop] at this
  omega
theorem sumLen_row {xss : List (List Int)} {j : Nat} {xs : List Int} (h : xss[j]? = some xs) : xs.length ≤ sumLen xss := by
  have h1 := sumLen_take h
  have h2 := sumLen_take_le xss (j + 1)
  omega
/-- The rows, marked one after the other. -/
def marksS (k : Int) : List (List Int) → List (List Int)
  | [] => []
  | xs :: xss => marks k xs.length :: marksS (k + xs.length) xss
theorem marksS_len (k : Int) : ∀ xss, (marksS k xss).length = xss.length
  | [] => rfl
  | xs :: xss => by simp [marksS, marksS_len _ xss]
theorem marksS_append : ∀ (k : Int) (a b : List (List Int)), marksS k (a ++ b) = marksS k a ++ marksS (k + sumLen a) b
  | k, [], b => by simp [marksS, sumLen]
  | k, x :: a, b => by
    simp only [List.cons_append, marksS, sumLen, marksS_append _ a b, List.cons.injEq, true_and]
    rw [show k + ((x.length + sumLen a : Nat) : Int) = k + x.length + sumLen a from by omega]
theorem marksS_get (k : Int) {xss : List (List Int)} {j : Nat} {xs : List Int} (h : xss[j]? = some xs) : (marksS k xss)[j]? = some (marks (k + sumLen (xss.take j)) xs.length) := by
  obtain ⟨h1, rfl⟩ := List.getElem?_eq_some_iff.1 h
  have e : xss = xss.take j ++ xss[j] :: xss.drop (j + 1) := by rw [← List.drop_eq_getElem_cons h1, List.take_append_drop]
  have hl : (marksS k (xss.take j)).length = j := by rw [marksS_len, List.length_take]; omega
  have e2 : marksS k xss = marksS k (xss.take j) ++ marksS (k + sumLen (xss.take j)) (xss[j] :: xss.drop (j + 1)) := by rw [← marksS_append, ← e]
  rw [e2, List.getElem?_append_right (by omega), hl, Nat.sub_self]
  rfl
theorem marksS_step {k : Int} {xss : List (List Int)} {j : Nat} {xs : List Int} (h : xss[j]? = some xs) :
    (marksS k (xss.take j) ++ xss.drop j).set j (marks (k + sumLen (xss.take j)) xs.length) = marksS k (xss.take (j + 1)) ++ xss.drop (j + 1) := by
  obtain ⟨h1, rfl⟩ := List.getElem?_eq_some_iff.1 h
  have hl : (marksS k (xss.take j)).length = j := by rw [marksS_len, List.length_take]; omega
  rw [List.set_append_right _ _ (by omega), hl, Nat.sub_self, List.drop_eq_getElem_cons h1, List.set_cons_zero, List.take_add_one, h, marksS_append]
  simp [marksS]
theorem marksS_sum (k : Int) : ∀ xss, sumLen (marksS k xss) = sumLen xss
  | [] => rfl
  | xs :: xss => by simp only [marksS, sumLen, marks_len, marksS_sum _ xss]

set_option maxHeartbeats 800000 in
theorem eqIntSS_c {va vb : Value} {xss yss : List (List Int)} {w : World} {Q : Ending → World → Prop} (ha : RowsAt w va xss) (hb : RowsAt w vb yss) (hQ : ∀ w', Drawn w w' → Q (.returned (.bool (decide (xss = yss)))) w') :
    Calls Try.prog 10 #[va, vb] w Q := by
  have H := Lib.hid hQ; clear hQ
  obtain ⟨aa, ca, rfl, la, lca, cca⟩ := ha.form
  obtain ⟨ab, cb, rfl, lb, lcb, ccb⟩ := hb.form
  by_cases hl : xss.length = yss.length
  · have hl' : ((xss.length : Int) != yss.length) = false := by rw [hl]; simp
    have hl'' := Lib.hid hl
    clear hl
    go_enter Try.func10, Try.ntmps10
    go_wp2
    go_loopg [5] xss.length (fun k i wr => Drawn w wr ∧ ∃ j : Nat, i = .int .i64 j ∧ Hid (xss.take j = yss.take j) ∧ j + k ≤ xss.length ∧ xss.length ≤ j + k)
    case atStart => exact ⟨Drawn.refl w, 0, rfl, Lib.hid rfl, by omega, by omega⟩
    case round =>
      obtain ⟨hw, j, rfl, hg, hk1, hk2⟩ := hrel
      by_cases hj : j < xss.length
      · have hjy : j < yss.length := by have := hl''.out; omega
        have haw := ha.drawn hw
        have hbw := hb.drawn hw
        obtain ⟨ba, oa, u, xs, rfl, hx, hcx, hxi⟩ := haw.cell hj
        obtain ⟨bb, ob, u', ys, rfl, hy, hcy, hyi⟩ := hbw.cell hjy
        have i1 : (j : Int) < xss.length := by omega
        have i2 : (j : Int) < yss.length := by omega
        by_cases hxy : xs = ys
        · have hd : decide (xs = ys) = true := decide_eq_true hxy
          have hxy' := Lib.hid hxy
          clear hxy
          go_wp2_with fail
          go_quiet ((go_at_call 36; exact quiet_c (eqIntS_c (hxi.drawn (Drawn.one _ _)) (hyi.drawn (Drawn.one _ _)) (fun _ h => ⟨rfl, h⟩))))
          go_wp2
          go_roundg (gk - 1)
          case measure => omega
          case rel => exact ⟨hw.next nq, j + 1, by go_num, Lib.hid (by rw [List.take_add_one, List.take_add_one, hx.out, hy.out, hg.out, hxy'.out]), by omega, by omega⟩
        · have hd : decide (xs = ys) = false := decide_eq_false hxy
          have hf : Hid (decide (xss = yss) = false) := Lib.hid (by
            rw [decide_eq_false_iff_not]
            intro e
            have h1 := hx.out
            rw [e, hy.out] at h1
            exact hxy (Option.some.inj h1).symm)
          clear hxy
          go_wp2_with fail
          go_quiet ((go_at_call 36; exact quiet_c (eqIntS_c (hxi.drawn (Drawn.one _ _)) (hyi.drawn (Drawn.one _ _)) (fun _ h => ⟨rfl, h⟩))))
          go_wp2
          exact boolq' (H.out _ (hw.next nq)) hf.out
      · go_wp2
        have e : xss = yss := by
          have h1 := hg.out
          have h2 := hl''.out
          rw [List.take_of_length_le (by omega), List.take_of_length_le (by omega)] at h1
          exact h1
        exact boolq' (H.out _ hw) (decide_eq_true e)
  · have hl' : ((xss.length : Int) != yss.length) = true := by simp; omega
    have hf : Hid (decide (xss = yss) = false) := Lib.hid (by rw [decide_eq_false_iff_not]; intro e; exact hl (by rw [e]))
    clear hl
    go_enter Try.func10, Try.ntmps10
    go_wp2
    exact boolq' (H.out _ (Drawn.refl w)) hf.out
set_option maxHeartbeats 800000 in
theorem markIntSS_c {v : Value} {xss : List (List Int)} {k : Int} {B E : Nat} {w : World} {Q : Ending → World → Prop} (ho : OwnRows w B E v xss) (hk0 : 0 ≤ k) (hk : k ≤ 4611686018427) (hn : xss.length + sumLen xss ≤ 4611686018427)
    (hQ : ∀ w', OwnRows w' B E v (marksS k xss) → Touch w w' B E → Q (.returned (.int .i64 (k + sumLen xss))) w') :
    Calls Try.prog 11 #[v, .int .i64 k] w Q := by
  have H := Lib.hid hQ; clear hQ
  obtain ⟨aa, ca, rfl, la, lca, cca⟩ := ho.form
  go_enter Try.func11, Try.ntmps11
  go_wp2_with fail
  go_loopg [1, 5] xss.length (fun g x i wr => ∃ (j : Nat) (q : Int), x = .int .i64 q ∧ i = .int .i64 j ∧ Hid (q = k + sumLen (xss.take j)) ∧ 0 ≤ q ∧ q ≤ 9223372036854 ∧ OwnRows wr B E (.slice aa xss.length ca) (marksS k (xss.take j) ++ xss.drop j) ∧ Touch w wr B E ∧ j + g ≤ xss.length ∧ xss.length ≤ j + g)
  case atStart => exact ⟨0, k, rfl, rfl, Lib.hid (by simp [sumLen]), by omega, by omega, by simpa [marksS] using ho, Touch.refl _ _ _, by omega, by omega⟩
  case round =>
    obtain ⟨j, q, rfl, rfl, hq, hq0, hq1, hr, ht, hk1, hk2⟩ := hrel
    by_cases hj : j < xss.length
    · have i1 : (j : Int) < xss.length := by omega
      have hll : (marksS k (xss.take j) ++ xss.drop j).length = xss.length := by rw [List.length_append, marksS_len, List.length_take, List.length_drop]; omega
      obtain ⟨b, rfl, hb1, hb2, hb3⟩ := OwnRows.head hr (by rw [hll]; omega)
      obtain ⟨u, xs, hx, hc, hui, huE⟩ := OwnRows.cell hr (k := j) (by rw [hll]; omega)
      clear hll
      have hx' : Hid (xss[j]? = some xs) := Lib.hid (by
        have := hx.out
        rw [List.getElem?_append_right (by rw [marksS_len, List.length_take]; omega), marksS_len, List.length_take, show j - min j xss.length = 0 from by omega, List.getElem?_drop] at this
        simpa using this)
      have hs1 := Lib.hid (sumLen_take hx'.out)
      have hs2 := Lib.hid (sumLen_take_le xss (j + 1))
      go_wp2_with fail
      refine markIntS_c hui (by omega) (by omega) (by have h1 := hs1.out; have h2 := hs2.out; omega) ?_
      intro w2 m2 g2
      have hq2 : q + xs.length ≤ 9223372036854 := by have h1 := hs1.out; have h2 := hs2.out; have h3 := hq.out; omega
      have hT := OwnRows.turn hr (k := j) (ys := marks q xs.length) (by rw [marks_len]) hx.out hui (fun g n cap e => by cases e; exact hc) m2 g2
      rw [hq.out, marksS_step hx'.out] at hT
      go_wp2
      go_roundg (gk - 1)
      case measure => omega
      case rel => exact ⟨j + 1, _, rfl, by go_num, Lib.hid (by rw [hs1.out, hq.out]; omega), by omega, by omega, hT, ht.trans (Touch.of_grown g2 fun k hk => ⟨(OwnInts.lt hui hk).1, huE k hk⟩), by omega, by omega⟩
    · have e1 : Hid (k + sumLen xss = q) := Lib.hid (by rw [hq.out, List.take_of_length_le (by omega)])
      have e2 : marksS k (xss.take j) ++ xss.drop j = marksS k xss := by rw [List.take_of_length_le (by omega), List.drop_eq_nil_of_le (by omega), List.append_nil]
      rw [e2] at hr
      go_wp2_with fail
      exact intq' (H.out _ hr ht) e1.out
set_option maxHeartbeats 800000 in
theorem heldIntSS_c {v : Value} {xss : List (List Int)} {k : Int} {w : World} {Q : Ending → World → Prop} (ho : RowsAt w v (marksS k xss)) (hk0 : 0 ≤ k) (hk : k ≤ 4611686018427) (hn : xss.length + sumLen xss ≤ 4611686018427)
    (hQ : Q (.returned (.int .i64 (k + sumLen xss))) w) :
    Calls Try.prog 12 #[v, .int .i64 k] w Q := by
  have H := Lib.hid hQ; clear hQ
  obtain ⟨aa, ca, rfl, la, lca, cca⟩ := ho.form
  rw [marksS_len] at *
  go_enter Try.func12, Try.ntmps12
  go_wp2_with fail
  go_loopg [1, 5] xss.length (fun g x i wr => Hid (wr = w) ∧ ∃ (j : Nat) (q : Int), x = .int .i64 q ∧ i = .int .i64 j ∧ Hid (q = k + sumLen (xss.take j)) ∧ 0 ≤ q ∧ q ≤ 9223372036854 ∧ j + g ≤ xss.length ∧ xss.length ≤ j + g)
  case atStart => exact ⟨Lib.hid rfl, 0, k, rfl, rfl, Lib.hid (by simp [sumLen]), by omega, by omega, by omega, by omega⟩
  case round =>
    obtain ⟨hw, j, q, rfl, rfl, hq, hq0, hq1, hk1, hk2⟩ := hrel
    obtain rfl := hw.out
    clear hw
    by_cases hj : j < xss.length
    · have i1 : (j : Int) < xss.length := by omega
      obtain ⟨b, off, u, xs, rfl, hx, hc, hi⟩ := ho.cell (k := j) (by rw [marksS_len]; exact hj)
      obtain ⟨ys, hy⟩ : ∃ ys, xss[j]? = some ys := ⟨_, List.getElem?_eq_getElem hj⟩
      have hxe := hx.out
      rw [marksS_get k hy, ← hq.out] at hxe
      obtain rfl := Option.some.inj hxe
      have hs1 := Lib.hid (sumLen_take hy)
      have hs2 := Lib.hid (sumLen_take_le xss (j + 1))
      clear hxe hx hy
      go_wp2_with fail
      refine heldIntS_c hi (by omega) (by omega) (by have h1 := hs1.out; have h2 := hs2.out; omega) ?_
      have hq2 : q + ys.length ≤ 9223372036854 := by have h1 := hs1.out; have h2 := hs2.out; have h3 := hq.out; omega
      go_wp2
      go_roundg (gk - 1)
      case measure => omega
      case rel => exact ⟨Lib.hid rfl, j + 1, _, rfl, by go_num, Lib.hid (by rw [hs1.out, hq.out]; omega), by omega, by omega, by omega, by omega⟩
    · have e1 : Hid (k + sumLen xss = q) := Lib.hid (by rw [hq.out, List.take_of_length_le (by omega)])
      go_wp2_with fail
      exact intq' H.out e1.out
end Go.Proofs.Ytdjdagcgodpgdaa
/- The next word, in place. -/
set_option linter.unusedVariables false
namespace Go.Proofs.Ytdjdagcgodpgdaa
open Go.RowKit

end Go.Proofs.Ytdjdagcgodpgdaa
/- Whether there are few words. -/
set_option linter.unusedVariables false
namespace Go.Proofs.Ytdjdagcgodpgdaa
open Go.RowKit

set_option maxHeartbeats 400000 in
theorem isSmall_i {n k : Int} {w : World} {Q : Ending → World → Prop} (hn0 : 0 ≤ n) (hn : n ≤ 10) (hQ : Q (.returned (.bool (decide (1 ≤ k ∧ k ≤ 4) && decide (Nums.pw k n ≤ 1024)))) w) :
    Calls Try.prog 80 #[.int .i64 n, .int .i64 k] w Q := by
  have H := Lib.hid hQ; clear hQ
  by_cases h1 : 1 ≤ k
  · by_cases h2 : k ≤ 4
    · go_enter Try.func80, Try.ntmps80
      go_wp2_with fail
      refine power_i (by omega) h2 hn0 (by omega) ?_
      go_wp2_with fail
      refine boolq' H.out ?_
      rw [decide_eq_true ⟨h1, h2⟩, Bool.true_and]
    · have hf : Hid ((decide (1 ≤ k ∧ k ≤ 4) && decide (Nums.pw k n ≤ 1024)) = false) := Lib.hid (by rw [decide_eq_false (by omega)]; rfl)
      go_enter Try.func80, Try.ntmps80
      go_wp2_with fail
      exact boolq' H.out hf.out
  · have hf : Hid ((decide (1 ≤ k ∧ k ≤ 4) && decide (Nums.pw k n ≤ 1024)) = false) := Lib.hid (by rw [decide_eq_false (by omega)]; rfl)
    go_enter Try.func80, Try.ntmps80
    go_wp2_with fail
    exact boolq' H.out hf.out
end Go.Proofs.Ytdjdagcgodpgdaa
/- The reference's makers of arguments: bytes and numbers out of a code. -/
set_option linter.unusedVariables false
namespace Go.Proofs.Ytdjdagcgodpgdaa
open Go.RowKit

theorem and255 (n : Int) : 0 ≤ bits .and .i64 n 255 ∧ bits .and .i64 n 255 ≤ 255 := by
  have h255 : (BitVec.ofInt 64 255).toNat = 2 ^ 8 - 1 := by decide
  have key : (BitVec.ofInt 64 n &&& BitVec.ofInt 64 255).toNat = (n % ((2 ^ 64 : Nat) : Int)).toNat % 2 ^ 8 := by
    rw [BitVec.toNat_and, BitVec.toNat_ofInt, h255, Nat.and_two_pow_sub_one_eq_mod]
  have e : bits .and .i64 n 255 = n % 256 := by
    show IntKind.i64.wrap ((BitVec.ofInt 64 n &&& BitVec.ofInt 64 255).toNat : Nat) = n % 256
    rw [key, IntKind.wrap_i64]
    omega
  rw [e]; omega

def bytes (bs : List Int) : List Value := bs.map (Value.int .u8)
def BytesAt (w : World) (v : Value) (bs : List Int) : Prop := RowAt w v (bytes bs)
/-- The bytes lie below block c. -/
def lowAt (v : Value) (c : Nat) : Prop := ∀ a n cap, v = .slice (some a) n cap → 0 < n → a.block < c
theorem BytesAt.low {w : World} {v : Value} {bs : List Int} (hb : BytesAt w v bs) : lowAt v w.heap.size := by
  obtain ⟨ao, cap, e1, e2, e3, e0, e4⟩ := hb
  intro a n cap' e hn
  rw [e1] at e
  simp only [Value.slice.injEq] at e
  obtain ⟨e5, e6, _⟩ := e
  obtain ⟨b, off, h1, h2⟩ := e4 0 _ (List.getElem?_eq_getElem (by omega))
  rw [e5] at h1
  obtain rfl := Option.some.inj h1
  exact World.block_lt_of_cell? w _ h2
theorem BytesAt.grown {w w' : World} {v : Value} {bs : List Int} (hb : BytesAt w v bs) {c : Nat} (hl : lowAt v c) {row : Option Nat} (hg : w.grownBy w' row) (hr : ∀ k, row = some k → c ≤ k) : BytesAt w' v bs := by
  obtain ⟨ao, cap, e1, e2, e3, e0, e4⟩ := hb
  refine ⟨ao, cap, e1, e2, e3, e0, fun k x hk => ?_⟩
  obtain ⟨b, off, h1, h2⟩ := e4 k x hk
  subst h1
  have hlt := hl _ _ _ e1 (by have := (List.getElem?_eq_some_iff.1 hk).1; omega)
  refine ⟨b, off, rfl, hg.cell h2 ?_⟩
  intro e
  have := hr _ e.symm
  simp at hlt this
  omega
/-- The cursor: three cells. -/
def Cur (w : World) (c : Nat) : Prop := ∃ (v : Value) (bs : List Int) (i h : Int), w.heap[c]? = some (.cells #[v, .int .i64 i, .int .i64 h] 82 (0, 0)) ∧ BytesAt w v bs ∧ 0 ≤ i ∧ lowAt v c

set_option maxHeartbeats 400000 in
theorem l01New_c {v : Value} {bs : List Int} {w : World} {Q : Ending → World → Prop} (hb : BytesAt w v bs)
    (hQ : ∀ w', Cur w' w.heap.size → Below w.heap.size w w' → w.heap.size < w'.heap.size → Q (.returned (.pointer (some ⟨w.heap.size, 0, none⟩))) w') :
    Calls Try.prog 72 #[v] w Q := by
  have H := Lib.hid hQ; clear hQ
  have hb' := hb
  obtain ⟨ao, ca, rfl, la, lca, cca⟩ := hb'.form
  rw [show (bytes bs).length = bs.length from by simp [bytes]] at *
  go_enter Try.func72, Try.ntmps72
  go_wp2
  go_loopg [3, 4] bs.length (fun g x i wr => Hid (wr = w) ∧ ∃ (h : Int) (j : Nat), x = .int .i64 h ∧ i = .int .i64 j ∧ j + g ≤ bs.length ∧ bs.length ≤ j + g)
  case atStart => exact ⟨Lib.hid rfl, _, 0, rfl, rfl, by omega, by omega⟩
  case round =>
    obtain ⟨hw, h, j, rfl, rfl, hk1, hk2⟩ := hrel
    obtain rfl := hw.out
    clear hw
    have hfin : Hid (Q (.returned (.pointer (some ⟨wr.heap.size, 0, none⟩))) (wr.alloc (.cells #[.slice ao bs.length ca, .int .i64 0, .int .i64 h] 82))) :=
      Lib.hid (H.out _ ⟨_, bs, 0, _, heap_alloc_new _ _, hb.below ((Below.refl _ _).alloc (Nat.le_refl _) _), by omega, hb.low⟩ ((Below.refl _ _).alloc (Nat.le_refl _) _) (by simp))
    by_cases hj : j < bs.length
    · by_cases h4 : (j : Int) < 4000
      · have i1 : (j : Int) < bs.length := by omega
        obtain ⟨b, off, x, rfl, hx, hc⟩ := RowAt.cell hb (k := j) (by simp [bytes]; exact hj)
        have hx' := hx.out
        simp only [bytes, List.getElem?_map, Option.map_eq_some_iff] at hx'
        obtain ⟨y, _, rfl⟩ := hx'
        clear hx
        go_wp2
        go_roundg (gk - 1)
        case measure => omega
        case rel => exact ⟨Lib.hid rfl, _, j + 1, rfl, by go_num, by omega, by omega⟩
      · have i1 : (j : Int) < bs.length := by omega
        have h4' : decide ((j : Int) < 4000) = false := decide_eq_false h4
        clear h4
        go_wp2
        exact hfin.out
    · go_wp2
      exact hfin.out
theorem Cur.cells {w : World} {c : Nat} (h : Cur w c) : ∃ (v : Value) (bs : List Int) (i h : Int), w.cell? ⟨c, 0, none⟩ = some v ∧ w.cell? ⟨c, 1, none⟩ = some (.int .i64 i) ∧ w.cell? ⟨c, 2, none⟩ = some (.int .i64 h) ∧ (∀ k, w.frozen? ⟨c, k, none⟩ = false) ∧ BytesAt w v bs ∧ 0 ≤ i ∧ c < w.heap.size := by
  obtain ⟨v, bs, i, h, h1, h2, h3⟩ := h
  refine ⟨v, bs, i, h, by rw [cell_of_row w c 0 _ _ _ h1]; rfl, by rw [cell_of_row w c 1 _ _ _ h1]; rfl, by rw [cell_of_row w c 2 _ _ _ h1]; rfl, fun k => ?_, h2, h3.1, (Array.getElem?_eq_some_iff.1 h1).1⟩
  simp [World.frozen?, h1]
theorem other_cell {w : World} {a a' : Addr} {x y : Value} (h : w.cell? a = some x) (h' : w.cell? a' = some y) (hne : x ≠ y) (u : Value) : (w.setCell a' u).cell? a = some x := by
  rw [World.cell?_setCell_other _ _ _ _ (fun e => ?_)]
  · exact h
  · subst e
    rw [h] at h'
    exact hne (Option.some.inj h')
theorem BytesAt.set {w : World} {v : Value} {bs : List Int} (hb : BytesAt w v bs) {a : Addr} {y : Int} (h : w.cell? a = some (.int .i64 y)) (u : Value) : BytesAt (w.setCell a u) v bs := by
  obtain ⟨ao, cap, e1, e2, e3, e0, e4⟩ := hb
  refine ⟨ao, cap, e1, e2, e3, e0, fun k x hk => ?_⟩
  obtain ⟨b, off, h1, h2⟩ := e4 k x hk
  refine ⟨b, off, h1, other_cell h2 h ?_ u⟩
  simp only [bytes, List.getElem?_map, Option.map_eq_some_iff] at hk
  obtain ⟨z, _, rfl⟩ := hk
  intro e
  cases e
/-- Stores of numbers into the cursor. -/
theorem Cur.setH {w : World} {c : Nat} (hc : Cur w c) (h' : Int) : Cur (w.setCell ⟨c, 2, none⟩ (.int .i64 h')) c := by
  obtain ⟨_, _, _, h0, _, _, c2, _⟩ := hc.cells
  obtain ⟨v, bs, i, h, h1, h2, h3⟩ := hc
  refine ⟨v, bs, i, h', ?_, h2.set c2 _, h3⟩
  simp [World.setCell, Array.getElem?_modify, h1]
theorem Cur.setI {w : World} {c : Nat} (hc : Cur w c) {i' : Int} (hi : 0 ≤ i') : Cur (w.setCell ⟨c, 1, none⟩ (.int .i64 i')) c := by
  obtain ⟨_, _, _, h0, _, c1, _, _⟩ := hc.cells
  obtain ⟨v, bs, i, h, h1, h2, h3⟩ := hc
  refine ⟨v, bs, i', h, ?_, h2.set c1 _, hi, h3.2⟩
  simp [World.setCell, Array.getElem?_modify, h1]
theorem Cur.drawn {w w' : World} {c : Nat} (hc : Cur w c) (hd : Drawn w w') : Cur w' c := by
  obtain ⟨v, bs, i, h, h1, h2, h3⟩ := hc
  exact ⟨v, bs, i, h, by rw [hd.heap]; exact h1, RowAt.drawn h2 hd, h3⟩
theorem Cur.grown {w w' : World} {c : Nat} (hc : Cur w c) {row : Option Nat} (hg : w.grownBy w' row) (hr : ∀ k, row = some k → c < k) : Cur w' c := by
  obtain ⟨v, bs, i, h, h1, h2, h3⟩ := hc
  refine ⟨v, bs, i, h, ?_, h2.grown h3.2 hg (fun k hk => Nat.le_of_lt (hr k hk)), h3⟩
  rw [hg.block c (Array.getElem?_eq_some_iff.1 h1).1 (fun e => by have := hr c e.symm; omega)]
  exact h1
theorem Cur.below {w w' : World} {c : Nat} (hc : Cur w c) (hb : Below w.heap.size w w') : Cur w' c := by
  obtain ⟨v, bs, i, h, h1, h2, h3⟩ := hc
  exact ⟨v, bs, i, h, by rw [hb.block c (Array.getElem?_eq_some_iff.1 h1).1]; exact h1, RowAt.below h2 hb, h3⟩
theorem Cur.lt {w : World} {c : Nat} (hc : Cur w c) : c < w.heap.size := by
  obtain ⟨v, bs, i, h, h1, h2, h3⟩ := hc
  exact (Array.getElem?_eq_some_iff.1 h1).1
theorem grown_drewNc {w w' : World} {row : Option Nat} (h : w.grownBy w' row) (n : Nat) : w.grownBy (w'.drewN n) row := ⟨h.os, h.tape, h.output, h.size, h.block⟩
set_option maxHeartbeats 800000 in
theorem l01Byte_c {c : Nat} {w : World} {Q : Ending → World → Prop} (hc : Cur w c)
    (hQ : ∀ (x : Int) w', 0 ≤ x → x ≤ 255 → Cur w' c → w.grownBy w' (some c) → w'.heap.size = w.heap.size → Q (.returned (.int .i64 x)) w') :
    Calls Try.prog 42 #[.pointer (some ⟨c, 0, none⟩)] w Q := by
  have H := Lib.hid hQ; clear hQ
  have hc' := Lib.hid hc
  obtain ⟨v, bs, i, h, c0, c1, c2, fr, hb, hi, hlt⟩ := hc.cells
  have hb' := hb
  obtain ⟨ao, ca, rfl, la, lca, cca⟩ := hb'.form
  rw [show (bytes bs).length = bs.length from by simp [bytes]] at *
  have fr1 := fr 1
  have fr2 := fr 2
  clear fr hb' hc
  by_cases hil : i < bs.length
  · obtain ⟨b, off, x, rfl, hx, hcx⟩ := RowAt.cell hb (k := i.toNat) (by simp [bytes]; omega)
    have hx' := hx.out
    simp only [bytes, List.getElem?_map, Option.map_eq_some_iff] at hx'
    obtain ⟨y, _, rfl⟩ := hx'
    clear hx hb
    have hcu : ∀ u, (w.setCell ⟨c, 2, none⟩ u).cell? ⟨b, off + i.toNat, none⟩ = some (.int .u8 y) := fun u => other_cell hcx c2 (by intro e; cases e) u
    go_enter Try.func42, Try.ntmps42
    go_wp2
    go_quiet (fail)
    go_wp2
    go_quiet (fail)
    go_wp2
    go_quiet (fail)
    go_wp2
    refine H.out _ _ (and255 _).1 (and255 _).2 ?_ ?_ ?_
    · exact (((hc'.out.setH _).drawn ⟨_, rfl⟩).setI (by omega)).drawn ⟨0, rfl⟩
    · exact grown_trans (grown_drewNc (grown_set _ _ _ _) _) (grown_set _ _ _ _)
    · simp [World.setCell]
  · clear hb
    go_enter Try.func42, Try.ntmps42
    go_wp2
    go_quiet (fail)
    go_wp2
    go_quiet (fail)
    go_wp2
    refine H.out _ _ (and255 _).1 (and255 _).2 ?_ ?_ ?_
    · exact ((hc'.out.setH _).drawn (Drawn.one _ _)).drawn (Drawn.one _ _)
    · exact grown_drewNc (grown_drewNc (grown_set _ _ _ _) _) _
    · simp [World.setCell]
set_option maxHeartbeats 400000 in
theorem l16New_c {v : Value} {bs : List Int} {n : Int} {w : World} {Q : Ending → World → Prop} (hb : BytesAt w v bs) (hn0 : 0 ≤ n) (hn : n ≤ 1000)
    (hQ : ∀ w', Cur w' w.heap.size → Below w.heap.size w w' → w.heap.size < w'.heap.size → Q (.returned (.pointer (some ⟨w.heap.size, 0, none⟩))) w') :
    Calls Try.prog 41 #[v, .int .i64 n] w Q := by
  have H := Lib.hid hQ; clear hQ
  have hb' := hb
  obtain ⟨ao, ca, rfl, la, lca, cca⟩ := hb'.form
  go_enter Try.func41, Try.ntmps41
  go_wp2_with fail
  refine l01New_c hb ?_
  intro w1 hc1 hb1 hs1
  go_wp2_with fail
  go_loopg [6] n.toNat (fun g i wr => ∃ j : Int, i = .int .i64 j ∧ Cur wr w.heap.size ∧ Below w.heap.size w wr ∧ w.heap.size < wr.heap.size ∧ 0 ≤ j ∧ j + g ≤ n ∧ n ≤ j + g)
  case atStart => exact ⟨0, rfl, hc1, hb1, hs1, by omega, by omega, by omega⟩
  case round =>
    obtain ⟨j, rfl, hc, hbel, hs, hj0, hk1, hk2⟩ := hrel
    by_cases hj : j < n
    · go_wp2_with (go_at_call 42; refine l01Byte_c hc ?_; intro x w2 hx0 hx1 hc2 hg2 hz2)
      go_roundg (gk - 1)
      case measure => omega
      case rel => exact ⟨j + 1, rfl, hc2, hbel.grown hg2 (by omega) (fun k hk => by cases hk; exact Nat.le_refl _), by omega, by omega, by omega, by omega⟩
    · go_wp2
      exact H.out _ hc hbel hs
set_option maxHeartbeats 400000 in
theorem MakeNum_c {v : Value} {bs : List Int} {n : Int} {w : World} {Q : Ending → World → Prop} (hb : BytesAt w v bs) (hn0 : 0 ≤ n) (hn : n ≤ 1000)
    (hQ : ∀ (x : Int) w', 0 ≤ x → x ≤ 65535 → Below w.heap.size w w' → Q (.returned (.int .i64 x)) w') :
    Calls Try.prog 17 #[v, .int .i64 n] w Q := by
  have H := Lib.hid hQ; clear hQ
  go_enter Try.func17, Try.ntmps17
  go_wp2_with fail
  refine l16New_c hb hn0 hn ?_
  intro w1 hc1 hb1 hs1
  go_wp2_with fail
  refine l01Byte_c hc1 ?_
  intro x w2 hx0 hx1 hc2 hg2 hz2
  go_wp2_with fail
  refine l01Byte_c hc2 ?_
  intro y w3 hy0 hy1 hc3 hg3 hz3
  go_wp2
  exact H.out _ _ (by omega) (by omega) ((hb1.grown hg2 (by omega) (fun k hk => by cases hk; exact Nat.le_refl _)).grown hg3 (by omega) (fun k hk => by cases hk; exact Nat.le_refl _))
end Go.Proofs.Ytdjdagcgodpgdaa
