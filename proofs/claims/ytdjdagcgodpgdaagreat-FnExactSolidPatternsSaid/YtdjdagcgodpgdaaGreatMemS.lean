/-
  How slices of slices of integers lie in memory, and the laws on make and append in these words.
-/
import Derived.Test.YtdjdagcgodpgdaaGreatMem
set_option linter.unusedVariables false
namespace Go.Proofs.YtdjdagcgodpgdaaGreat
open Go.RowKit

/-! ### read -/

/-- v is a slice of slices that holds xss. -/
def RowsAt (w : World) (v : Value) (xss : List (List Int)) : Prop :=
  ∃ vs, RowAt w v vs ∧ vs.length = xss.length ∧ ∀ (k : Nat) (xs : List Int), xss[k]? = some xs → ∃ u, vs[k]? = some u ∧ IntsAt w u xs
theorem RowsAt.same {w w' : World} {v : Value} {xss : List (List Int)} (h : RowsAt w v xss) (hw : ∀ a x, w.cell? a = some x → w'.cell? a = some x) : RowsAt w' v xss := by
  obtain ⟨vs, h1, h2, h3⟩ := h
  refine ⟨vs, h1.same hw, h2, fun k xs hk => ?_⟩
  obtain ⟨u, a, b⟩ := h3 k xs hk
  exact ⟨u, a, b.same hw⟩
theorem RowsAt.below {w w' : World} {v : Value} {xss : List (List Int)} (h : RowsAt w v xss) (hb : Below w.heap.size w w') : RowsAt w' v xss := h.same (below_cells hb)
theorem RowsAt.drawn {w w' : World} {v : Value} {xss : List (List Int)} (h : RowsAt w v xss) (hd : Drawn w w') : RowsAt w' v xss := h.same hd.cells
theorem RowsAt.form {w : World} {v : Value} {xss : List (List Int)} (h : RowsAt w v xss) : ∃ ao cap, v = .slice ao xss.length cap ∧ (xss.length : Int) ≤ 9223372036854775807 ∧ xss.length ≤ cap ∧ (cap : Int) ≤ 9223372036854775807 := by
  obtain ⟨vs, h1, h2, h3⟩ := h
  rw [← h2]; exact h1.form
theorem RowsAt.cell {w : World} {ao : Option Addr} {n cap : Nat} {xss : List (List Int)} (h : RowsAt w (.slice ao n cap) xss) {k : Nat} (hk : k < xss.length) :
    ∃ b off u xs, ao = some ⟨b, off, none⟩ ∧ Hid (xss[k]? = some xs) ∧ w.cell? ⟨b, off + k, none⟩ = some u ∧ IntsAt w u xs := by
  obtain ⟨vs, h1, h2, h3⟩ := h
  obtain ⟨b, off, x, e, hx, hc⟩ := h1.cell (k := k) (by omega)
  obtain ⟨u, hu, hi⟩ := h3 k _ (List.getElem?_eq_getElem hk)
  have := hx.out
  rw [hu] at this
  obtain rfl := Option.some.inj this
  exact ⟨b, off, u, _, e, Lib.hid (List.getElem?_eq_getElem hk), hc, hi⟩
theorem RowsAt.nil (w : World) : RowsAt w (.slice none 0 0) [] := ⟨[], ⟨none, 0, rfl, Nat.le_refl _, by unfold maxLen; omega, fun _ => rfl, fun k x h => by simp at h⟩, rfl, fun k xs h => by simp at h⟩

/-! ### the call's own -/
def inB (v : Value) (E : Nat) : Prop := ∀ k, v.ownBlock = some k → k < E
def apart (u v : Value) : Prop := u.ownBlock = none ∨ u.ownBlock ≠ v.ownBlock
/-- v is a slice of slices of the call's own: all its rows lie in blocks of their own, from B up to E. -/
def OwnRows (w : World) (B E : Nat) (v : Value) (xss : List (List Int)) : Prop :=
  ∃ vs, Own w B 36 v vs ∧ inB v E ∧ vs.length = xss.length ∧
    (∀ (k : Nat) (xs : List Int), xss[k]? = some xs → ∃ u, vs[k]? = some u ∧ OwnInts w B u xs ∧ inB u E) ∧
    ∀ (i j : Nat) (u u' : Value), i < j → vs[i]? = some u → vs[j]? = some u' → apart u u'
theorem Own.block {w : World} {B : Nat} {T : TypeId} {v : Value} {xs : List Value} (h : Own w B T v xs) {k : Nat} (hk : v.ownBlock = some k) : ∃ cur, w.heap[k]? = some (.cells cur T (0, 0)) := by
  rcases h.2 with ⟨rfl, _⟩ | ⟨g, cap, cur, rfl, hb, hgg, rest⟩
  · simp [Value.ownBlock] at hk
  · simp only [Value.ownBlock, Option.some.injEq] at hk
    subst hk
    exact ⟨cur, hgg⟩
/-- An outer row and an inner one lie in two blocks: their elements are of two types. -/
theorem own_types {w : World} {B B' : Nat} {T T' : TypeId} {v u : Value} {xs ys : List Value} (h : Own w B T v xs) (k : Own w B' T' u ys) (hT : T ≠ T') : apart u v := by
  unfold apart
  cases hu : u.ownBlock with
  | none => exact .inl rfl
  | some b =>
    refine .inr fun e => ?_
    obtain ⟨c1, h1⟩ := k.block hu
    obtain ⟨c2, h2⟩ := h.block e.symm
    rw [h1] at h2
    cases h2
    exact hT rfl
theorem inB.mono {v : Value} {E E' : Nat} (h : inB v E) (hE : E ≤ E') : inB v E' := fun k hk => Nat.lt_of_lt_of_le (h k hk) hE
theorem Own.inBlk {w : World} {B : Nat} {T : TypeId} {v : Value} {xs : List Value} (h : Own w B T v xs) : inB v w.heap.size := fun k hk => (h.lt hk).2
/-- What changes lies in blocks from B up to E, or is new. -/
structure Touch (w w' : World) (B E : Nat) : Prop where
  os : w'.os = w.os
  tape : w'.tape = w.tape
  output : w'.output = w.output
  size : w.heap.size ≤ w'.heap.size
  block : ∀ k, k < w.heap.size → (k < B ∨ E ≤ k) → w'.heap[k]? = w.heap[k]?
theorem Touch.refl (w : World) (B E : Nat) : Touch w w B E := ⟨rfl, rfl, rfl, Nat.le_refl _, fun _ _ _ => rfl⟩
theorem Touch.trans {a b c : World} {B E : Nat} (h : Touch a b B E) (k : Touch b c B E) : Touch a c B E :=
  ⟨k.os.trans h.os, k.tape.trans h.tape, k.output.trans h.output, Nat.le_trans h.size k.size, fun i hi hr => (k.block i (Nat.lt_of_lt_of_le hi h.size) hr).trans (h.block i hi hr)⟩
theorem Touch.of_grown {w w' : World} {v : Value} {B E : Nat} (h : w.grownBy w' v.ownBlock) (hB : ∀ k, v.ownBlock = some k → B ≤ k ∧ k < E) : Touch w w' B E :=
  ⟨h.os, h.tape, h.output, h.size, fun k hk hr => h.block k hk fun e => by have := hB k e.symm; omega⟩
theorem Touch.of_below {w w' : World} (h : Below w.heap.size w w') (B E : Nat) : Touch w w' B E := ⟨h.os, h.tape, h.output, h.size, fun k hk _ => h.block k hk⟩
theorem Touch.below {w w' : World} {B E B0 : Nat} (h : Touch w w' B E) (hB : B0 ≤ B) (hw : B0 ≤ w.heap.size) : Below B0 w w' :=
  ⟨h.os, h.tape, h.output, h.size, fun k hk => h.block k (by omega) (.inl (by omega))⟩
theorem Own.touch {w w' : World} {B E B' E' : Nat} {T : TypeId} {v : Value} {xs : List Value} (h : Own w B T v xs) (hi : inB v E) (ht : Touch w w' B' E') (hd : E ≤ B' ∨ E' ≤ B) : Own w' B T v xs :=
  h.kept fun k hk => ht.block k (h.lt hk).2 (by have h1 := hi k hk; have h2 := (h.lt hk).1; omega)
theorem OwnInts.touch {w w' : World} {B E B' E' : Nat} {v : Value} {xs : List Int} (h : OwnInts w B v xs) (hi : inB v E) (ht : Touch w w' B' E') (hd : E ≤ B' ∨ E' ≤ B) : OwnInts w' B v xs := Own.touch h hi ht hd
theorem OwnRows.kept {w w' : World} {B E : Nat} {v : Value} {xss : List (List Int)} (h : OwnRows w B E v xss) (hw : ∀ k, B ≤ k → k < E → k < w.heap.size → w'.heap[k]? = w.heap[k]?) : OwnRows w' B E v xss := by
  obtain ⟨vs, h1, h2, h3, h4, h5⟩ := h
  refine ⟨vs, h1.kept fun k hk => hw k (h1.lt hk).1 (h2 k hk) (h1.lt hk).2, h2, h3, fun k xs hk => ?_, h5⟩
  obtain ⟨u, a, b, c⟩ := h4 k xs hk
  exact ⟨u, a, Own.kept b fun k hk => hw k (Own.lt b hk).1 (c k hk) (Own.lt b hk).2, c⟩
theorem OwnRows.below {w w' : World} {B E : Nat} {v : Value} {xss : List (List Int)} (h : OwnRows w B E v xss) (hb : Below w.heap.size w w') : OwnRows w' B E v xss := h.kept fun k _ _ hk => hb.block k hk
theorem OwnRows.drawn {w w' : World} {B E : Nat} {v : Value} {xss : List (List Int)} (h : OwnRows w B E v xss) (hd : Drawn w w') : OwnRows w' B E v xss := h.kept fun k _ _ _ => by rw [hd.heap]
theorem OwnRows.touch {w w' : World} {B E B' E' : Nat} {v : Value} {xss : List (List Int)} (h : OwnRows w B E v xss) (ht : Touch w w' B' E') (hd : E ≤ B' ∨ E' ≤ B) : OwnRows w' B E v xss :=
  h.kept fun k h1 h2 h3 => ht.block k h3 (by omega)
theorem OwnRows.mono {w : World} {B B' E E' : Nat} {v : Value} {xss : List (List Int)} (h : OwnRows w B E v xss) (hB : B' ≤ B) (hE : E ≤ E') : OwnRows w B' E' v xss := by
  obtain ⟨vs, h1, h2, h3, h4, h5⟩ := h
  refine ⟨vs, h1.mono hB, h2.mono hE, h3, fun k xs hk => ?_, h5⟩
  obtain ⟨u, a, b, c⟩ := h4 k xs hk
  exact ⟨u, a, Own.mono b hB, c.mono hE⟩
/-- All its blocks are there already. -/
theorem OwnRows.tight {w : World} {B E : Nat} {v : Value} {xss : List (List Int)} (h : OwnRows w B E v xss) : OwnRows w B w.heap.size v xss := by
  obtain ⟨vs, h1, h2, h3, h4, h5⟩ := h
  refine ⟨vs, h1, h1.inBlk, h3, fun k xs hk => ?_, h5⟩
  obtain ⟨u, a, b, c⟩ := h4 k xs hk
  exact ⟨u, a, b, Own.inBlk b⟩
theorem OwnRows.at {w : World} {B E : Nat} {v : Value} {xss : List (List Int)} (h : OwnRows w B E v xss) : RowsAt w v xss := by
  obtain ⟨vs, h1, h2, h3, h4, h5⟩ := h
  refine ⟨vs, h1.row, h3, fun k xs hk => ?_⟩
  obtain ⟨u, a, b, c⟩ := h4 k xs hk
  exact ⟨u, a, b.at⟩
theorem OwnRows.form {w : World} {B E : Nat} {v : Value} {xss : List (List Int)} (h : OwnRows w B E v xss) : ∃ ao cap, v = .slice ao xss.length cap ∧ (xss.length : Int) ≤ 9223372036854775807 ∧ xss.length ≤ cap ∧ (cap : Int) ≤ 9223372036854775807 := h.at.form
theorem OwnRows.nil (w : World) (B E : Nat) : OwnRows w B E (.slice none 0 0) [] :=
  ⟨[], Own.nil _ _ _, fun k hk => by simp [Value.ownBlock] at hk, rfl, fun k xs h => by simp at h, fun i j u u' _ h => by simp at h⟩
theorem OwnRows.head {w : World} {B E : Nat} {ao : Option Addr} {n cap : Nat} {xss : List (List Int)} (h : OwnRows w B E (.slice ao n cap) xss) (hn : 0 < xss.length) :
    ∃ g, ao = some ⟨g, 0, none⟩ ∧ B ≤ g ∧ g < w.heap.size ∧ g < E := by
  obtain ⟨vs, h1, h2, h3, h4, h5⟩ := h
  obtain ⟨g, rfl, a, b⟩ := h1.head (by omega)
  exact ⟨g, rfl, a, b, h2 g rfl⟩
theorem OwnRows.frozen {w : World} {B E : Nat} {g n cap : Nat} {xss : List (List Int)} (h : OwnRows w B E (.slice (some ⟨g, 0, none⟩) n cap) xss) (k : Nat) : w.frozen? ⟨g, k, none⟩ = false := by
  obtain ⟨vs, h1, h2, h3, h4, h5⟩ := h
  exact h1.frozen k
/-- The row at k: it is the call's own, too. -/
theorem OwnRows.cell {w : World} {B E : Nat} {g n cap : Nat} {xss : List (List Int)} (h : OwnRows w B E (.slice (some ⟨g, 0, none⟩) n cap) xss) {k : Nat} (hk : k < xss.length) :
    ∃ u xs, Hid (xss[k]? = some xs) ∧ w.cell? ⟨g, k, none⟩ = some u ∧ OwnInts w B u xs ∧ inB u E := by
  obtain ⟨vs, h1, h2, h3, h4, h5⟩ := h
  obtain ⟨u, a, b, c⟩ := h4 k _ (List.getElem?_eq_getElem hk)
  exact ⟨u, _, Lib.hid (List.getElem?_eq_getElem hk), h1.cell a, b, c⟩
/-- A row is put at k: it lies in a block that no other row has. -/
theorem OwnRows.put {w : World} {B E : Nat} {g n cap : Nat} {xss : List (List Int)} (h : OwnRows w B E (.slice (some ⟨g, 0, none⟩) n cap) xss) {u : Value} {xs : List Int} (hu : OwnInts w B u xs) (hf : ∀ b, u.ownBlock = some b → E ≤ b) (k : Nat) :
    OwnRows (w.setCell ⟨g, k, none⟩ u) B (max E w.heap.size) (.slice (some ⟨g, 0, none⟩) n cap) (xss.set k xs) := by
  obtain ⟨vs, h1, h2, h3, h4, h5⟩ := h
  have hgE : g < E := h2 g rfl
  have keep : ∀ {z : Value} {zs : List Int}, OwnInts w B z zs → OwnInts (w.setCell ⟨g, k, none⟩ u) B z zs := fun {z zs} hz =>
    Own.setOther hz u (by
      rcases own_types h1 hz (by decide) with e | e
      · rw [e]; simp
      · exact e)
  refine ⟨vs.set k u, h1.set k u, fun b hb => Nat.lt_of_lt_of_le (h2 b hb) (Nat.le_max_left _ _), by rw [List.length_set, List.length_set]; exact h3, fun i zs hi => ?_, ?_⟩
  · by_cases e : i = k
    · subst e
      have hil : i < xss.length := by have := (List.getElem?_eq_some_iff.1 hi).1; rw [List.length_set] at this; exact this
      rw [List.getElem?_set_self hil] at hi
      obtain rfl := Option.some.inj hi
      exact ⟨u, List.getElem?_set_self (by omega), keep hu, fun b hb => Nat.lt_of_lt_of_le (Own.lt hu hb).2 (Nat.le_max_right _ _)⟩
    · rw [List.getElem?_set_ne (fun h => e h.symm)] at hi
      obtain ⟨z, a, b, c⟩ := h4 i zs hi
      exact ⟨z, by rw [List.getElem?_set_ne (fun h => e h.symm)]; exact a, keep b, c.mono (Nat.le_max_left _ _)⟩
  · intro i j z z' hij hz hz'
    have old : ∀ {i : Nat} {z : Value}, vs[i]? = some z → inB z E := fun {i z} hz => by
      obtain ⟨hl, _⟩ := List.getElem?_eq_some_iff.1 hz
      obtain ⟨z2, a, _, c⟩ := h4 i _ (List.getElem?_eq_getElem (by omega))
      rw [hz] at a
      obtain rfl := Option.some.inj a
      exact c
    by_cases e1 : i = k
    · subst e1
      have hil : i < vs.length := by have := (List.getElem?_eq_some_iff.1 hz).1; rw [List.length_set] at this; exact this
      rw [List.getElem?_set_self hil] at hz
      obtain rfl := Option.some.inj hz
      rw [List.getElem?_set_ne (by omega)] at hz'
      have hi2 := old hz'
      unfold apart
      cases hb : u.ownBlock with
      | none => exact .inl rfl
      | some b =>
        refine .inr fun e => ?_
        have h1 := hf b hb
        have h2 := hi2 b e.symm
        omega
    · rw [List.getElem?_set_ne (fun h => e1 h.symm)] at hz
      by_cases e2 : j = k
      · subst e2
        have hil : j < vs.length := by have := (List.getElem?_eq_some_iff.1 hz').1; rw [List.length_set] at this; exact this
        rw [List.getElem?_set_self hil] at hz'
        obtain rfl := Option.some.inj hz'
        have hi2 := old hz
        unfold apart
        cases hb : z.ownBlock with
        | none => exact .inl rfl
        | some b =>
          refine .inr fun e => ?_
          have h1 := hf b e.symm
          have h2 := hi2 b hb
          omega
      · rw [List.getElem?_set_ne (fun h => e2 h.symm)] at hz'
        exact h5 i j z z' hij hz hz'
/-- The row at k changes in place. -/
theorem OwnRows.turn {w w' : World} {B E : Nat} {v : Value} {xss : List (List Int)} (h : OwnRows w B E v xss) {k : Nat} {u : Value} {xs ys : List Int} (hl : xs.length = ys.length)
    (hk : xss[k]? = some xs) (hu : OwnInts w B u xs) (hub : ∀ g n cap, v = .slice (some ⟨g, 0, none⟩) n cap → w.cell? ⟨g, k, none⟩ = some u) (hu' : OwnInts w' B u ys) (hg : w.grownBy w' u.ownBlock) :
    OwnRows w' B E v (xss.set k ys) := by
  obtain ⟨vs, h1, h2, h3, h4, h5⟩ := h
  have hkl : k < xss.length := (List.getElem?_eq_some_iff.1 hk).1
  obtain ⟨u0, hu0, hu1, hu2⟩ := h4 k xs hk
  obtain rfl : u0 = u := by
    rcases h1.2 with ⟨rfl, hn⟩ | ⟨g, cap, cur, rfl, _⟩
    · omega
    · have a := hub g _ cap rfl
      rw [h1.cell hu0] at a
      exact Option.some.inj a
  have hu0a : apart u0 v := own_types h1 hu1 (by decide)
  refine ⟨vs, h1.kept fun b hb => hg.block b (h1.lt hb).2 ?_, h2, by rw [List.length_set]; exact h3, fun i zs hi => ?_, h5⟩
  · intro e
    rcases hu0a with e' | e'
    · rw [e'] at e; cases e
    · exact e' (by rw [hb, ← e])
  · by_cases e : i = k
    · subst e
      rw [List.getElem?_set_self hkl] at hi
      obtain rfl := Option.some.inj hi
      exact ⟨u0, hu0, hu', hu2⟩
    · rw [List.getElem?_set_ne (fun h => e h.symm)] at hi
      obtain ⟨z, a, b, c⟩ := h4 i zs hi
      refine ⟨z, a, Own.kept b fun q hq => hg.block q (Own.lt b hq).2 ?_, c⟩
      intro eq
      rcases Nat.lt_or_gt_of_ne e with hlt | hlt
      · rcases h5 i k z u0 hlt a hu0 with e' | e'
        · rw [e'] at hq; cases hq
        · exact e' (by rw [hq, ← eq])
      · rcases h5 k i u0 z hlt hu0 a with e' | e'
        · rw [e'] at eq; cases eq
        · exact e' (by rw [hq, ← eq])

/-! ### make, append -/
theorem Tryz.infoInts : (Tryz.prog.info? 36).map (fun i => (i.zero, i.size, i.bytes)) = some (some (.slice none 0 0), 1, 24) := by kernel_rfl
/-- 'make([][]int, n)'. -/
theorem mk_rows {w : World} {ops : Array Oper} {rest : List Oper} {o : Oper} {a : Act} {Q : Exit → Act → World → Prop}
    (hg : o.guard = none) (l c : Operand) (hop : o.op = Op.makeSlice 22 l c) {C : Int} (hl : a.eval l = .int .i64 C) (hc : a.eval c = .int .i64 C) (n : Nat) (hC : C = n) (hn : n ≤ 1099511627776)
    (hK : ∀ w', OwnRows w' w.heap.size w'.heap.size (.slice (some ⟨w.heap.size, 0, none⟩) n n) (List.replicate n []) → Below w.heap.size w w' → w.heap.size < w'.heap.size → wpList Tryz.prog ops Q rest (a.put o.dst (.slice (some ⟨w.heap.size, 0, none⟩) n n)) w') :
    wpList Tryz.prog ops Q (o :: rest) a w := by
  obtain ⟨i0, hi, hz0, hz1, hz2⟩ := info_parts Tryz.infoInts
  refine wpList_make_full w hg l c 22 hop w.heap.size 36 i0 (.slice none 0 0) 1 Tryz.underlying22 hi hz0 hz1 .i64 .i64 C C n hl hc hC hC (by rw [hz2]; omega) (by unfold maxLen; omega) (Nat.le_refl _) ?_
  intro w' hown hgr
  have e : (madeCells (Value.slice none 0 0).cells (n * 1)).toList = List.replicate n (.slice none 0 0) := by
    rw [Nat.mul_one]
    show (madeCells #[Value.slice none 0 0] n).toList = _
    rw [toList_madeCells_one]
  rw [e] at hown
  have ho : Own w' w.heap.size 36 (.slice (some ⟨w.heap.size, 0, none⟩) n n) (List.replicate n (.slice none 0 0)) := by
    unfold Own; rw [List.length_replicate]; exact hown
  refine hK w' ⟨_, ho, ho.inBlk, by simp, fun k xs hk => ?_, fun i j u u' _ h _ => ?_⟩ (below_of_grown hgr (Nat.le_refl _) (fun k hk => by cases hk)) (hown.lt _ rfl).2
  · obtain ⟨h1, h2⟩ := List.getElem?_eq_some_iff.1 hk
    rw [List.getElem_replicate] at h2
    subst h2
    exact ⟨.slice none 0 0, by rw [List.getElem?_replicate, if_pos (by simpa using h1)], Own.nil _ _ _, fun k hk => by simp [Value.ownBlock] at hk⟩
  · obtain ⟨h1, h2⟩ := List.getElem?_eq_some_iff.1 h
    rw [List.getElem_replicate] at h2
    subst h2
    exact .inl rfl
/-- 'append(s, row)' of one row, of a block of its own. -/
theorem app_rows {w : World} {ops : Array Oper} {rest : List Oper} {o : Oper} {a : Act} {Q : Exit → Act → World → Prop} (hg : o.guard = none) (s x : Operand) (hop : o.op = .call { callee := .builtin .append, args := #[s, x], argTypes := #[22, 22] })
    {B E : Nat} {v u : Value} {xss : List (List Int)} {xs : List Int} (hs : a.eval s = v) (hown : OwnRows w B E v xss) {ad : Addr} {c : Nat} (hx : a.eval x = .slice (some ad) 1 c) (hu : w.cell? ad = some u)
    (hrow : OwnInts w B u xs) (hf : ∀ b, u.ownBlock = some b → E ≤ b)
    (hn : xss.length + 1 ≤ 1099511627776) (hB : B ≤ w.heap.size)
    (hK : ∀ v' w', OwnRows w' B w'.heap.size v' (xss ++ [xs]) → Touch w w' B E → wpList Tryz.prog ops Q rest (a.put o.dst v') w') :
    wpList Tryz.prog ops Q (o :: rest) a w := by
  obtain ⟨vs, h1, h2, h3, h4, h5⟩ := hown
  have h1c : u.oneCell' = true := by
    obtain ⟨_, _, rfl, _⟩ := Own.form hrow
    rfl
  refine app_one 22 36 (.slice none 0 0) 24 Tryz.infoInts Tryz.underlying22 rfl hg s x hop hs h1 hx hu h1c (by rw [h3]; omega) (by rw [h3]; unfold maxLen; omega) hB ?_
  intro v' w' ho hgr
  have keep : ∀ {z : Value} {zs : List Int}, OwnInts w B z zs → OwnInts w' B z zs := fun {z zs} hz => Own.grown hz hgr (own_types h1 hz (by decide))
  refine hK v' w' ⟨_, ho, ho.inBlk, by simp [h3], fun k zs hk => ?_, fun i j z z' hij hz hz' => ?_⟩ (Touch.of_grown hgr fun k hk => ⟨(h1.lt hk).1, h2 k hk⟩)
  · by_cases e : k < xss.length
    · rw [List.getElem?_append_left e] at hk
      obtain ⟨z, a, b, c⟩ := h4 k zs hk
      exact ⟨z, by rw [List.getElem?_append_left (by omega)]; exact a, keep b, Own.inBlk (keep b)⟩
    · have hk' := (List.getElem?_eq_some_iff.1 hk).1
      rw [List.length_append, List.length_singleton] at hk'
      obtain rfl : k = xss.length := by omega
      rw [List.getElem?_append_right (Nat.le_refl _), Nat.sub_self] at hk
      simp at hk
      subst hk
      exact ⟨u, by rw [← h3, List.getElem?_append_right (Nat.le_refl _), Nat.sub_self]; rfl, keep hrow, Own.inBlk (keep hrow)⟩
  · have old : ∀ {i : Nat} {z : Value}, vs[i]? = some z → inB z E := fun {i z} hz => by
      obtain ⟨hl, _⟩ := List.getElem?_eq_some_iff.1 hz
      obtain ⟨z2, a, _, c⟩ := h4 i _ (List.getElem?_eq_getElem (by omega))
      rw [hz] at a
      obtain rfl := Option.some.inj a
      exact c
    by_cases ej : j < vs.length
    · rw [List.getElem?_append_left (by omega)] at hz
      rw [List.getElem?_append_left ej] at hz'
      exact h5 i j z z' hij hz hz'
    · have hj' := (List.getElem?_eq_some_iff.1 hz').1
      rw [List.length_append, List.length_singleton] at hj'
      obtain rfl : j = vs.length := by omega
      rw [List.getElem?_append_right (Nat.le_refl _), Nat.sub_self] at hz'
      simp at hz'
      subst hz'
      rw [List.getElem?_append_left hij] at hz
      have hi2 := old hz
      unfold apart
      cases hb : z.ownBlock with
      | none => exact .inl rfl
      | some b =>
        refine .inr fun e => ?_
        have a := hf b e.symm
        have c := hi2 b hb
        omega
/-- '[][]int{}'. -/
theorem own_rows_empty (w : World) : OwnRows (w.alloc (.cells #[] 36)) w.heap.size (w.heap.size + 1) (.slice (some ⟨w.heap.size, 0, none⟩) 0 0) [] :=
  ⟨[], World.ownsRow_lit (size := 1) w #[] 0 (Nat.le_refl _) (by unfold maxLen; omega) rfl, (fun k hk => by cases hk; exact Nat.lt_succ_self _), rfl, fun k xs h => by simp at h, fun i j u u' _ h => by simp at h⟩
end Go.Proofs.YtdjdagcgodpgdaaGreat
