/-
  Part 4 of 8 of what the law FnSolids rests on.
-/
import Derived.Test.YtdjdagcgodpgdaaMo3
import Derived.ArgAppend
import Derived.Deep.DeepAppendRoom
set_option maxRecDepth 20000
/- Slices of slices, in two parts: the outer row, and what its values are. -/
set_option linter.unusedVariables false
namespace Go.Proofs.Ytdjdagcgodpgdaa
open Go.RowKit

/-- The values us are slices of integers of the call's own, that hold xss: each lies in a block of its own, from B up to E. -/
def Rows (w : World) (B E : Nat) (us : List Value) (xss : List (List Int)) : Prop :=
  us.length = xss.length ∧ (∀ (k : Nat) (xs : List Int), xss[k]? = some xs → ∃ u, us[k]? = some u ∧ OwnInts w B u xs ∧ inB u E) ∧
    ∀ (i j : Nat) (u u' : Value), i < j → us[i]? = some u → us[j]? = some u' → apart u u'
theorem OwnRows.parts {w : World} {B E : Nat} {v : Value} {xss : List (List Int)} (h : OwnRows w B E v xss) : ∃ us, Own w B 38 v us ∧ inB v E ∧ Rows w B E us xss := by
  obtain ⟨us, h1, h2, h3, h4, h5⟩ := h
  exact ⟨us, h1, h2, h3, h4, h5⟩
theorem Rows.whole {w : World} {B E : Nat} {v : Value} {us : List Value} {xss : List (List Int)} (h : Rows w B E us xss) (ho : Own w B 38 v us) (hi : inB v E) : OwnRows w B E v xss :=
  ⟨us, ho, hi, h.1, h.2.1, h.2.2⟩
theorem Rows.kept {w w' : World} {B E : Nat} {us : List Value} {xss : List (List Int)} (h : Rows w B E us xss) (hw : ∀ k, B ≤ k → k < E → k < w.heap.size → w'.heap[k]? = w.heap[k]?) : Rows w' B E us xss :=
  ⟨h.1, fun k xs hk => by
    obtain ⟨u, a, b, c⟩ := h.2.1 k xs hk
    exact ⟨u, a, Own.kept b fun q hq => hw q (Own.lt b hq).1 (c q hq) (Own.lt b hq).2, c⟩, h.2.2⟩
theorem Rows.below {w w' : World} {B E : Nat} {us : List Value} {xss : List (List Int)} (h : Rows w B E us xss) (hb : Below w.heap.size w w') : Rows w' B E us xss := h.kept fun k _ _ hk => hb.block k hk
theorem Rows.drawn {w w' : World} {B E : Nat} {us : List Value} {xss : List (List Int)} (h : Rows w B E us xss) (hd : Drawn w w') : Rows w' B E us xss := h.kept fun k _ _ _ => by rw [hd.heap]
/-- A change of the outer row, or of a block below or above. -/
theorem Rows.grown {w w' : World} {B E : Nat} {us : List Value} {xss : List (List Int)} {row : Option Nat} (h : Rows w B E us xss) (hg : w.grownBy w' row) (hr : ∀ k, row = some k → k < B ∨ E ≤ k) : Rows w' B E us xss :=
  h.kept fun k h1 h2 h3 => hg.block k h3 fun e => by have := hr k e.symm; omega
/-- A change of a block that holds other things than integers. -/
theorem Rows.outer {w w' : World} {B E : Nat} {us : List Value} {xss : List (List Int)} (h : Rows w B E us xss) {B' : Nat} {v : Value} {zs : List Value} (ho : Own w B' 38 v zs) (hg : w.grownBy w' v.ownBlock) : Rows w' B E us xss :=
  ⟨h.1, fun k xs hk => by
    obtain ⟨u, a, b, c⟩ := h.2.1 k xs hk
    exact ⟨u, a, Own.grown b hg (own_types ho b (by decide)), c⟩, h.2.2⟩
theorem Rows.mono {w : World} {B B' E E' : Nat} {us : List Value} {xss : List (List Int)} (h : Rows w B E us xss) (hB : B' ≤ B) (hE : E ≤ E') : Rows w B' E' us xss :=
  ⟨h.1, fun k xs hk => by
    obtain ⟨u, a, b, c⟩ := h.2.1 k xs hk
    exact ⟨u, a, Own.mono b hB, c.mono hE⟩, h.2.2⟩
theorem Rows.tight {w : World} {B E : Nat} {us : List Value} {xss : List (List Int)} (h : Rows w B E us xss) : Rows w B w.heap.size us xss :=
  ⟨h.1, fun k xs hk => by
    obtain ⟨u, a, b, c⟩ := h.2.1 k xs hk
    exact ⟨u, a, b, Own.inBlk b⟩, h.2.2⟩
theorem OwnInts.under {w w' : World} {B E : Nat} {v : Value} {xs : List Int} (h : OwnInts w B v xs) (hi : inB v E) (hb : Below E w w') : OwnInts w' B v xs := Own.kept h fun k hk => hb.block k (hi k hk)
theorem OwnRows.under {w w' : World} {B E : Nat} {v : Value} {xss : List (List Int)} (h : OwnRows w B E v xss) (hb : Below E w w') : OwnRows w' B E v xss := h.kept fun k _ hk _ => hb.block k hk
theorem Rows.under {w w' : World} {B E : Nat} {us : List Value} {xss : List (List Int)} (h : Rows w B E us xss) (hb : Below E w w') : Rows w' B E us xss := h.kept fun k _ hk _ => hb.block k hk
theorem Rows.nil (w : World) (B E : Nat) : Rows w B E [] [] := ⟨rfl, fun k xs h => by simp at h, fun i j u u' _ h => by simp at h⟩
theorem Rows.get {w : World} {B E : Nat} {us : List Value} {xss : List (List Int)} (h : Rows w B E us xss) {k : Nat} (hk : k < xss.length) :
    ∃ u xs, Hid (us[k]? = some u) ∧ Hid (xss[k]? = some xs) ∧ OwnInts w B u xs ∧ inB u E := by
  obtain ⟨u, a, b, c⟩ := h.2.1 k _ (List.getElem?_eq_getElem hk)
  exact ⟨u, _, Lib.hid a, Lib.hid (List.getElem?_eq_getElem hk), b, c⟩
theorem Rows.push {w : World} {B E : Nat} {us : List Value} {xss : List (List Int)} (h : Rows w B E us xss) {u : Value} {xs : List Int} (hu : OwnInts w B u xs) (hf : ∀ b, u.ownBlock = some b → E ≤ b) : Rows w B w.heap.size (us ++ [u]) (xss ++ [xs]) := by
  obtain ⟨h3, h4, h5⟩ := h
  refine ⟨by simp [h3], fun k zs hk => ?_, fun i j z z' hij hz hz' => ?_⟩
  · by_cases e : k < xss.length
    · rw [List.getElem?_append_left e] at hk
      obtain ⟨z, a, b, c⟩ := h4 k zs hk
      exact ⟨z, by rw [List.getElem?_append_left (by omega)]; exact a, b, Own.inBlk b⟩
    · have hk' := (List.getElem?_eq_some_iff.1 hk).1
      rw [List.length_append, List.length_singleton] at hk'
      obtain rfl : k = xss.length := by omega
      rw [List.getElem?_append_right (Nat.le_refl _), Nat.sub_self] at hk
      simp at hk
      subst hk
      exact ⟨u, by rw [← h3, List.getElem?_append_right (Nat.le_refl _), Nat.sub_self]; rfl, hu, Own.inBlk hu⟩
  · by_cases ej : j < us.length
    · rw [List.getElem?_append_left (by omega)] at hz
      rw [List.getElem?_append_left ej] at hz'
      exact h5 i j z z' hij hz hz'
    · have hj' := (List.getElem?_eq_some_iff.1 hz').1
      rw [List.length_append, List.length_singleton] at hj'
      obtain rfl : j = us.length := by omega
      rw [List.getElem?_append_right (Nat.le_refl _), Nat.sub_self] at hz'
      simp at hz'
      subst hz'
      rw [List.getElem?_append_left hij] at hz
      obtain ⟨z2, a, _, c⟩ := h4 i _ (List.getElem?_eq_getElem (show i < xss.length by omega))
      rw [hz] at a
      obtain rfl := Option.some.inj a
      unfold apart
      cases hb : z.ownBlock with
      | none => exact .inl rfl
      | some b =>
        refine .inr fun e => ?_
        have a := hf b e.symm
        have c := c b hb
        omega
def nilV : Value := Value.slice (Option.none) 0 0
/-- Some of the rows, in their order. -/
theorem Rows.pick {w : World} {B E : Nat} {us : List Value} {xss : List (List Int)} (h : Rows w B E us xss) {is : List Nat} (hp : is.Pairwise (· < ·)) (hl : ∀ i ∈ is, i < xss.length) :
    Rows w B E (is.map fun i => us.getD i nilV) (is.map fun i => xss.getD i []) := by
  obtain ⟨h3, h4, h5⟩ := h
  refine ⟨by simp, fun k xs hk => ?_, fun i j z z' hij hz hz' => ?_⟩
  · rw [List.getElem?_map, Option.map_eq_some_iff] at hk
    obtain ⟨i, hi, rfl⟩ := hk
    have hil := hl i (List.mem_of_getElem? hi)
    obtain ⟨u, a, b, c⟩ := h4 i _ (List.getElem?_eq_getElem hil)
    have e : xss.getD i [] = xss[i] := by simp [List.getD, List.getElem?_eq_getElem hil]
    refine ⟨u, ?_, by rw [e]; exact b, c⟩
    rw [List.getElem?_map, hi]
    simp [List.getD, a]
  · rw [List.getElem?_map, Option.map_eq_some_iff] at hz hz'
    obtain ⟨a, ha, rfl⟩ := hz
    obtain ⟨b, hb, rfl⟩ := hz'
    have hal := hl a (List.mem_of_getElem? ha)
    have hbl := hl b (List.mem_of_getElem? hb)
    have hab : a < b := by
      rw [List.pairwise_iff_getElem] at hp
      obtain ⟨x1, rfl⟩ := List.getElem?_eq_some_iff.1 ha
      obtain ⟨x2, rfl⟩ := List.getElem?_eq_some_iff.1 hb
      exact hp i j x1 x2 hij
    refine h5 a b _ _ hab ?_ ?_
    · simp [List.getD, List.getElem?_eq_getElem (show a < us.length by omega)]
    · simp [List.getD, List.getElem?_eq_getElem (show b < us.length by omega)]
theorem pick_step {α : Type} {l : List α} {d : α} {f : α → Bool} {is : List Nat} {j : Nat} {x : α} (h : (is.map fun i => l.getD i d) = (l.take j).filter f) (hx : l[j]? = some x) :
    ((if f x = true then is ++ [j] else is).map fun i => l.getD i d) = (l.take (j + 1)).filter f := by
  rw [List.take_add_one, hx, List.filter_append]
  by_cases hf : f x = true
  · rw [if_pos hf, List.map_append, h]
    simp [hf, List.getD, hx]
  · rw [if_neg hf, h]
    simp [hf]
/-- 'append(s, row)' of one row: s is the call's own, the row may be anyone's. -/
theorem app_val {w : World} {ops : Array Oper} {rest : List Oper} {o : Oper} {a : Act} {Q : Exit → Act → World → Prop} (hg : o.guard = none) (s x : Operand) (hop : o.op = .call { callee := .builtin .append, args := #[s, x], argTypes := #[22, 22] })
    {B g n cap : Nat} {u : Value} {us : List Value} (hs : a.eval s = .slice (some ⟨g, 0, none⟩) n cap) (hown : Own w B 38 (.slice (some ⟨g, 0, none⟩) n cap) us) {ad : Addr} {c : Nat} (hx : a.eval x = .slice (some ad) 1 c) (hu : w.cell? ad = some u)
    (h1 : u.oneCell' = true) (hn : us.length + 1 ≤ 1099511627776) (hB : B ≤ w.heap.size)
    (hK : ∀ g' cap' w', Own w' B 38 (.slice (some ⟨g', 0, none⟩) (n + 1) cap') (us ++ [u]) → w.grownBy w' (some g) → (g' = g ∨ w.heap.size ≤ g') → wpList Try.prog ops Q rest (a.put o.dst (.slice (some ⟨g', 0, none⟩) (n + 1) cap')) w') :
    wpList Try.prog ops Q (o :: rest) a w := by
  obtain ⟨i0, hi, hz0, hz1, hz2⟩ := info_parts Try.infoInts
  obtain rfl := hown.len
  have hc1 : ∀ (j : Nat) (y : Value), [u][j]? = some y → w.cell? (ad.add j) = some y := by
    intro j y hy
    match j, hy with
    | 0, hy =>
      simp at hy; subst hy
      have : ad.add 0 = ad := by unfold Addr.add; split <;> simp_all
      rw [this]; exact hu
  have ho1 : ∀ y ∈ [u], y.oneCell' = true := by intro y hy; simp at hy; subst hy; exact h1
  by_cases hr : us.length + 1 ≤ cap
  · refine wpList_append_own_spare w hg s x 22 hop B 38 i0 1 Try.underlying22 hi hz1 g us.length cap us hs hown ad 1 c [u] hx rfl hc1 ho1 hr ?_
    intro w' h2 h3
    have e : (us ++ [u]).length = us.length + 1 := by simp
    exact hK g cap w' (by unfold Own; rw [e]; exact h2) h3 (.inl rfl)
  · refine wpList_append_arg w hg s x 22 hop 38 i0 (.slice none 0 0) 1 24 Try.underlying22 hi hz0 hz1 hz2 rfl (by decide) g 0 us.length cap us hs (by simp) (fun j y hy => by rw [Nat.zero_add]; exact hown.cell hy) ad 1 c [u] hx rfl hc1 ho1
      (fun h => absurd h hr) (by unfold maxLen; omega) (by omega) (fun h => absurd h hr) ?_
    intro _ v' w' h2 h3
    have h2' : Own w' w.heap.size 38 v' (us ++ [u]) := by unfold Own; rw [List.length_append]; exact h2
    obtain ⟨ao, c', rfl, _, _, _⟩ := Own.form h2'
    obtain ⟨g', rfl, hg1, hg2⟩ := h2'.head (by simp)
    have e : (us ++ [u]).length = us.length + 1 := by simp
    rw [e] at h2'
    have h4 := hK g' c' w' (h2'.mono hB) ⟨h3.os, h3.tape, h3.output, h3.size, fun k hk _ => h3.block k hk (by simp)⟩ (.inr hg1)
    rw [e]
    exact h4
/-- '[][]int{}', its outer row. -/
theorem own_outer_empty (w : World) : Own (w.alloc (.cells #[] 38)) w.heap.size 38 (.slice (some ⟨w.heap.size, 0, none⟩) 0 0) [] :=
  World.ownsRow_lit (size := 1) w #[] 0 (Nat.le_refl _) (by unfold maxLen; omega) rfl
/-- '[][]int{row}'. -/
theorem own_rows_one {w : World} {B : Nat} {u : Value} {xs : List Int} (hu : OwnInts w B u xs) (hB : B ≤ w.heap.size) : OwnRows (w.alloc (.cells #[u] 38)) B (w.heap.size + 1) (.slice (some ⟨w.heap.size, 0, none⟩) 1 1) [xs] :=
  ⟨[u], Own.mono (World.ownsRow_lit (size := 1) w #[u] 1 (Nat.le_refl _) (by unfold maxLen; omega) rfl) hB, (fun k hk => by cases hk; exact Nat.lt_succ_self _), rfl,
    (fun k zs h => by
      match k, h with
      | 0, h =>
        simp at h; subst h
        exact ⟨u, rfl, OwnInts.below hu (below_alloc w _), fun q hq => Nat.lt_succ_of_lt (OwnInts.lt hu hq).2⟩), fun i j z z' hij h h' => by
      have := (List.getElem?_eq_some_iff.1 h').1
      simp at this
      omega⟩
end Go.Proofs.Ytdjdagcgodpgdaa
/- More on slices of slices. -/
set_option linter.unusedVariables false
namespace Go.Proofs.Ytdjdagcgodpgdaa
open Go.RowKit

theorem Rows.append {w : World} {B B2 E E2 : Nat} {us us2 : List Value} {xss yss : List (List Int)} (h : Rows w B E us xss) (h2 : Rows w B2 E2 us2 yss) (hB : B ≤ B2) (hE : E ≤ B2) (hE2 : B2 ≤ E2) : Rows w B E2 (us ++ us2) (xss ++ yss) := by
  obtain ⟨h3, h4, h5⟩ := h
  obtain ⟨k3, k4, k5⟩ := h2
  refine ⟨by simp [h3, k3], fun k zs hk => ?_, fun i j z z' hij hz hz' => ?_⟩
  · by_cases e : k < xss.length
    · rw [List.getElem?_append_left e] at hk
      obtain ⟨z, a, b, c⟩ := h4 k zs hk
      exact ⟨z, by rw [List.getElem?_append_left (by omega)]; exact a, b, c.mono (by omega)⟩
    · rw [List.getElem?_append_right (by omega)] at hk
      obtain ⟨z, a, b, c⟩ := k4 _ zs hk
      exact ⟨z, by rw [List.getElem?_append_right (by omega), h3]; exact a, Own.mono b hB, c⟩
  · by_cases ej : j < us.length
    · rw [List.getElem?_append_left (by omega)] at hz
      rw [List.getElem?_append_left ej] at hz'
      exact h5 i j z z' hij hz hz'
    · rw [List.getElem?_append_right (by omega)] at hz'
      by_cases ei : i < us.length
      · rw [List.getElem?_append_left ei] at hz
        obtain ⟨z2, a, _, c⟩ := h4 i _ (List.getElem?_eq_getElem (show i < xss.length by omega))
        rw [hz] at a
        obtain rfl := Option.some.inj a
        obtain ⟨z3, a3, b3, c3⟩ := k4 (j - us.length) _ (List.getElem?_eq_getElem (show j - us.length < yss.length by have := (List.getElem?_eq_some_iff.1 hz').1; omega))
        rw [hz'] at a3
        obtain rfl := Option.some.inj a3
        unfold apart
        cases hb : z.ownBlock with
        | none => exact .inl rfl
        | some b =>
          refine .inr fun e => ?_
          have h1 := c b hb
          have h2 := (Own.lt b3 e.symm).1
          omega
      · rw [List.getElem?_append_right (by omega)] at hz
        exact k5 _ _ z z' (by omega) hz hz'
theorem Rows.one {w : World} {B E : Nat} {us : List Value} {xss : List (List Int)} (h : Rows w B E us xss) : ∀ y ∈ us, y.oneCell' = true := fun y hy => by
  obtain ⟨k, hk⟩ := List.getElem?_of_mem hy
  have hl := (List.getElem?_eq_some_iff.1 hk).1
  obtain ⟨u, xs, hu, _, hou, _⟩ := h.get (k := k) (by have := h.1; omega)
  obtain ⟨au, cu, rfl, _, _, _⟩ := Own.form hou
  rw [hu.out] at hk
  obtain rfl := Option.some.inj hk
  rfl
/-- 'append(s, rows...)': s is the call's own, the rows may be anyone's. -/
theorem app_outer {w : World} {ops : Array Oper} {rest : List Oper} {o : Oper} {a : Act} {Q : Exit → Act → World → Prop} (hg : o.guard = none) (s x : Operand) (hop : o.op = .call { callee := .builtin .append, args := #[s, x], argTypes := #[22, 22] })
    {B : Nat} {v u : Value} {us ys : List Value} (hs : a.eval s = v) (hown : Own w B 38 v us) (hx : a.eval x = u) (hrow : RowAt w u ys) (h1 : ∀ y ∈ ys, y.oneCell' = true)
    (hn : us.length + ys.length ≤ 1099511627776) (hB : B ≤ w.heap.size)
    (hK : ∀ v' w', Own w' B 38 v' (us ++ ys) → w.grownBy w' v.ownBlock → wpList Try.prog ops Q rest (a.put o.dst v') w') :
    wpList Try.prog ops Q (o :: rest) a w :=
  app_row 22 38 (.slice none 0 0) 24 Try.infoInts Try.underlying22 rfl hg s x hop hs hown hx hrow h1 (by omega) (by unfold maxLen; omega) hB hK
theorem addr_add (b f i : Nat) : Addr.add ⟨b, f, none⟩ i = ⟨b, f + i, none⟩ := by
  unfold Addr.add
  by_cases h : i = 0
  · rw [if_pos h, h]; rfl
  · rw [if_neg h]
theorem RowsAt.one {w : World} {vs : List Value} {xss : List (List Int)} (hl : vs.length = xss.length) (h : ∀ (k : Nat) (xs : List Int), xss[k]? = some xs → ∃ u, vs[k]? = some u ∧ IntsAt w u xs) : ∀ y ∈ vs, y.oneCell' = true := fun y hy => by
  obtain ⟨k, hk⟩ := List.getElem?_of_mem hy
  have hkl := (List.getElem?_eq_some_iff.1 hk).1
  obtain ⟨u, hu, hi⟩ := h k _ (List.getElem?_eq_getElem (show k < xss.length by omega))
  rw [hk] at hu
  obtain rfl := Option.some.inj hu
  obtain ⟨_, _, rfl, _⟩ := hi.form
  rfl
theorem row_one (w : World) (v : Value) (T : TypeId) : RowAt (w.alloc (.cells #[v] T)) (.slice (some ⟨w.heap.size, 0, none⟩) 1 1) [v] := by
  refine ⟨some ⟨w.heap.size, 0, none⟩, 1, rfl, Nat.le_refl _, by unfold maxLen; omega, (fun h => by cases h), ?_⟩
  intro k x hk
  cases k with
  | zero =>
    simp at hk; subst hk
    exact ⟨w.heap.size, 0, rfl, cell_new w v T⟩
  | succ k => simp at hk
/-- A variable on the heap, of one cell. -/
def BoxAt (w : World) (b : Nat) (T : TypeId) (v : Value) : Prop := w.heap[b]? = some (.cells #[v] T (0, 0))
theorem BoxAt.cell {w : World} {b : Nat} {T : TypeId} {v : Value} (h : BoxAt w b T v) : w.cell? ⟨b, 0, none⟩ = some v := by
  rw [cell_of_row w b 0 _ _ _ h]; rfl
theorem BoxAt.frozen {w : World} {b : Nat} {T : TypeId} {v : Value} (h : BoxAt w b T v) : w.frozen? ⟨b, 0, none⟩ = false := by
  unfold BoxAt at h
  simp [World.frozen?, h]
theorem BoxAt.set {w : World} {b : Nat} {T : TypeId} {v : Value} (h : BoxAt w b T v) (u : Value) : BoxAt (w.setCell ⟨b, 0, none⟩ u) b T u := by
  unfold BoxAt at h ⊢
  simp [World.setCell, Array.getElem?_modify, h]
theorem BoxAt.lt {w : World} {b : Nat} {T : TypeId} {v : Value} (h : BoxAt w b T v) : b < w.heap.size := (Array.getElem?_eq_some_iff.1 h).1
theorem BoxAt.below {w w' : World} {b : Nat} {T : TypeId} {v : Value} (h : BoxAt w b T v) (hb : Below w.heap.size w w') : BoxAt w' b T v := by
  unfold BoxAt at h ⊢
  rw [hb.block b (Array.getElem?_eq_some_iff.1 h).1]; exact h
theorem BoxAt.drawn {w w' : World} {b : Nat} {T : TypeId} {v : Value} (h : BoxAt w b T v) (hd : Drawn w w') : BoxAt w' b T v := by
  unfold BoxAt at h ⊢
  rw [hd.heap]; exact h
theorem BoxAt.grown {w w' : World} {b : Nat} {T : TypeId} {v : Value} {row : Option Nat} (h : BoxAt w b T v) (hg : w.grownBy w' row) (hr : row ≠ some b) : BoxAt w' b T v := by
  unfold BoxAt at h ⊢
  rw [hg.block b (Array.getElem?_eq_some_iff.1 h).1 (fun e => hr e.symm)]; exact h
/-- A box holds another type than a row of the call's own. -/
theorem BoxAt.apart {w : World} {b B : Nat} {T T' : TypeId} {v u : Value} {xs : List Value} (h : BoxAt w b T v) (ho : Own w B T' u xs) (hT : T ≠ T') : u.ownBlock ≠ some b := by
  intro e
  obtain ⟨cur, hc⟩ := ho.block e
  unfold BoxAt at h
  rw [h] at hc
  cases hc
  exact hT rfl
end Go.Proofs.Ytdjdagcgodpgdaa
/- Inserting a permutation into an ascending list, as the reference does. -/
set_option linter.unusedVariables false
namespace Go.Proofs.Ytdjdagcgodpgdaa
open Go.RowKit

set_option maxHeartbeats 2000000 in
theorem l03Put_c {vg : Value} {vs : List Value} {g : List (List Int)} {u : Value} {p : List Int} {n : Nat} {w : World} {Q : Ending → World → Prop} (hr : RowAt w vg vs) (hvl : vs.length = g.length) (hvv0 : ∀ (k : Nat) (xs : List Int), g[k]? = some xs → ∃ u, vs[k]? = some u ∧ IntsAt w u xs)
    (hu : IntsAt w u p) (hg : g.length ≤ 1024) (hln : ∀ x ∈ g, x.length = n) (hpn : p.length = n)
    (hQ : ∀ v' w' (i : Nat), i ≤ g.length → (∀ (t : Nat) y, t < i → g[t]? = some y → Words.cmpL y p < 0) → (∀ y, g[i]? = some y → ¬ Words.cmpL y p < 0) → Own w' w.heap.size 38 v' ((vs.take i ++ [u]) ++ vs.drop i) → Below w.heap.size w w' → Q (.returned v') w') :
    Calls Try.prog 56 #[vg, u] w Q := by
  have H := Lib.hid hQ; clear hQ
  have hone := Lib.hid (RowsAt.one hvl hvv0)
  have rr' := Lib.hid (show RowsAt w vg g from ⟨vs, hr, hvl, hvv0⟩)
  have hux := Lib.hid hu
  obtain ⟨au, cu, rfl, _, _, _⟩ := hu.form
  obtain ⟨a6, ca, rfl, hl63, hlca, _⟩ := hr.form
  rw [hvl] at hr hl63 hlca ⊢
  have hrow := Lib.hid hr
  have hvl2 : vs.length ≤ g.length ∧ g.length ≤ vs.length := by omega
  have hlen := Lib.hid hln
  have hpn' := Lib.hid hpn
  clear hu hr hvv0 hvl hln hpn
  go_enter Try.func56, Try.ntmps56
  go_wp2_with fail
  go_loopg [5] g.length (fun gg u12 w3 => Hid (w3 = w) ∧ ∃ i : Nat, u12 = .int .i64 i ∧ Hid (∀ (t : Nat) y, t < i → g[t]? = some y → Words.cmpL y p < 0) ∧ i + gg ≤ g.length ∧ g.length ≤ i + gg)
  case atStart => exact ⟨Lib.hid rfl, 0, rfl, Lib.hid (fun t y h => by omega), by omega, by omega⟩
  case round =>
    obtain ⟨hw3, i, rfl, hlow, hi1, hi2⟩ := hrel
    obtain rfl := hw3.out
    clear hw3
    have hiW : i ≤ g.length := by omega
    by_cases hi : i < g.length
    · have hiI : (i : Int) < g.length := by omega
      obtain ⟨bi, fi, ui, y, rfl, hy, hcy, huy⟩ := rr'.out.cell (k := i) hi
      obtain ⟨ay, cy, rfl, _, _, _⟩ := huy.form
      have huy' := Lib.hid huy
      have hly : Hid (y.length = p.length) := Lib.hid (by rw [hlen.out y (List.mem_of_getElem? hy.out), hpn'.out])
      clear huy
      by_cases hc : Words.cmpL y p < 0
      · have hd : Hid (Words.less y p = true) := Lib.hid (by rw [Words.less_cmp hly.out]; exact decide_eq_true hc)
        have hlow2 : Hid (∀ (t : Nat) z, t < i + 1 → g[t]? = some z → Words.cmpL z p < 0) := Lib.hid (fun t z ht hz => by
          by_cases e : t < i
          · exact hlow.out t z e hz
          · obtain rfl : t = i := by omega
            rw [hy.out] at hz
            cases hz
            exact hc)
        clear hc
        go_wp2_with (go_at_call 87; refine l03Less_c huy'.out hux.out hly.out ?_; rw [hd.out])
        go_roundg (gk - 1)
        case measure => omega
        case rel => exact ⟨Lib.hid rfl, i + 1, by go_num, hlow2, by omega, by omega⟩
      · have hd : Hid (Words.less y p = false) := Lib.hid (by rw [Words.less_cmp hly.out]; exact decide_eq_false hc)
        have hhi : Hid (∀ z, g[i]? = some z → ¬ Words.cmpL z p < 0) := Lib.hid (fun z hz => by rw [hy.out] at hz; cases hz; exact hc)
        clear hc
        have hne6 : ¬ (ca = i) := by omega
        have b0 := below_alloc wr (.cells #[] 38)
        have hup := RowAt.below (RowAt.upto hrow.out (k := i) (by omega)) b0
        have htl0 := RowAt.tail hrow.out (k := i) (by omega)
        have htl : RowAt wr (.slice (some ⟨bi, fi + i, none⟩) (g.length - i) (ca - i)) (vs.drop i) := by
          rw [if_neg (show ¬ ca = i by omega), Option.map_some, addr_add] at htl0
          exact htl0
        clear htl0
        have hi63 : (i : Int) ≤ g.length := by omega
        have hica : i ≤ ca := by omega
        have hone1 : ∀ y ∈ vs.take i, y.oneCell' = true := fun y hy => hone.out y (List.mem_of_mem_take hy)
        have hone2 : ∀ y ∈ vs.drop i, y.oneCell' = true := fun y hy => hone.out y (List.mem_of_mem_drop hy)
        have hA1 : Hid (∀ us1 : List Value, us1 = ([] ++ vs.take i) → us1.length ≤ 2048) := Lib.hid (fun z h => by rw [h, List.nil_append, List.length_take]; omega)
        have hA3 : Hid ((vs.drop i).length ≤ 2048) := Lib.hid (by rw [List.length_drop]; omega)
        have hone3' : Hid (∀ y ∈ [Value.slice au p.length cu], y.oneCell' = true) := Lib.hid (fun y hy => by rw [List.mem_singleton] at hy; rw [hy]; rfl)
        have htl' := Lib.hid htl
        have hup' := Lib.hid hup
        have hone1' := Lib.hid hone1
        have hone2' := Lib.hid hone2
        clear htl hup hone1 hone2
        go_wp2_with (first
          | (go_at_call 87; refine l03Less_c huy'.out hux.out hly.out ?_; rw [hd.out])
          | (at_builtin; refine app_outer rfl (.tmp 21) (.tmp 24) rfl rfl (own_outer_empty wr) rfl hup'.out hone1'.out (by simp; omega) (by simp) ?_; intro v1 w1 o1 g1; change World.grownBy _ w1 (some wr.heap.size) at g1; obtain ⟨us1, hus1⟩ : ∃ us1, us1 = ([] ++ vs.take i) := ⟨_, rfl⟩; rw [← hus1] at o1; have hus1' := Lib.hid hus1; have hu1l : us1.length ≤ 2048 := hA1.out _ hus1; clear hus1; obtain ⟨n1, c1, rfl, l1, _, _⟩ := Own.form o1; have b1 : Below wr.heap.size wr w1 := b0.grown g1 (by simp) (by intro k hk; cases hk; exact Nat.le_refl _); have o1' := Own.below o1 (below_alloc w1 (.cells #[.slice au p.length cu] 38)); have b1' := b1.alloc b1.size (.cells #[.slice au p.length cu] 38); have hr1 := row_one w1 (.slice au p.length cu) 38)
          | (at_builtin; refine app_outer rfl (.tmp 26) (.tmp 28) rfl rfl o1' rfl hr1 hone3'.out (by show us1.length + 1 ≤ 1099511627776; omega) b1'.size ?_; intro v2 w2 o2 g2; obtain ⟨us2, hus2⟩ : ∃ us2, us2 = (us1 ++ [.slice au p.length cu]) := ⟨_, rfl⟩; rw [← hus2] at o2; have hus2' := Lib.hid hus2; have hu2l : us2.length ≤ 2049 := (by rw [hus2, List.length_append]; show us1.length + 1 ≤ 2049; omega); clear hus2; obtain ⟨n2, c2, rfl, l2, _, _⟩ := Own.form o2; have b2 : Below wr.heap.size wr w2 := b1'.grown g2 b1'.size (fun b hb => (Own.lt o1' hb).1); have htl2 := RowAt.below htl'.out b2)
          | (at_builtin; refine app_outer rfl (.tmp 30) (.tmp 33) rfl rfl o2 rfl htl2 hone2'.out (by have := hA3.out; omega) b2.size ?_; intro v3 w3 o3 g3))
        have b3 : Below wr.heap.size wr w3 := b2.grown g3 b2.size (fun b hb => (Own.lt o2 hb).1)
        rw [hus2'.out, hus1'.out, List.nil_append] at o3
        have h3 := Lib.hid (H.out v3 w3 i hiW hlow.out hhi.out o3 b3)
        obtain ⟨n3, c3', rfl, _, _, _⟩ := Own.form o3
        go_wp2_with fail
        exact h3.out
    · have hhi : Hid (∀ z, g[i]? = some z → ¬ Words.cmpL z p < 0) := Lib.hid (fun z hz => by rw [List.getElem?_eq_none (by omega)] at hz; cases hz)
      obtain rfl : i = g.length := by omega
      by_cases hci : ca = g.length
      · have hci' := hci
        subst hci
        have b0 := below_alloc wr (.cells #[] 38)
        have hup := RowAt.below (RowAt.upto hrow.out (k := g.length) (by omega)) b0
        have htl0 := RowAt.tail hrow.out (k := g.length) (by omega)
        have htl : RowAt wr (.slice a6 0 0) (vs.drop g.length) := by
          rw [if_pos rfl, Nat.sub_self] at htl0; exact htl0
        clear htl0
        have hi63 : (g.length : Int) ≤ g.length := by omega
        have hica : g.length ≤ g.length := by omega
        have hone1 : ∀ y ∈ vs.take g.length, y.oneCell' = true := fun y hy => hone.out y (List.mem_of_mem_take hy)
        have hone2 : ∀ y ∈ vs.drop g.length, y.oneCell' = true := fun y hy => hone.out y (List.mem_of_mem_drop hy)
        have hA1 : Hid (∀ us1 : List Value, us1 = ([] ++ vs.take g.length) → us1.length ≤ 2048) := Lib.hid (fun z h => by rw [h, List.nil_append, List.length_take]; omega)
        have hA3 : Hid ((vs.drop g.length).length ≤ 2048) := Lib.hid (by rw [List.length_drop]; omega)
        have hone3' : Hid (∀ y ∈ [Value.slice au p.length cu], y.oneCell' = true) := Lib.hid (fun y hy => by rw [List.mem_singleton] at hy; rw [hy]; rfl)
        have htl' := Lib.hid htl
        have hup' := Lib.hid hup
        have hone1' := Lib.hid hone1
        have hone2' := Lib.hid hone2
        clear htl hup hone1 hone2
        go_wp2_with (first
          | (at_builtin; refine app_outer rfl (.tmp 21) (.tmp 24) rfl rfl (own_outer_empty wr) rfl hup'.out hone1'.out (by simp; omega) (by simp) ?_; intro v1 w1 o1 g1; change World.grownBy _ w1 (some wr.heap.size) at g1; obtain ⟨us1, hus1⟩ : ∃ us1, us1 = ([] ++ vs.take g.length) := ⟨_, rfl⟩; rw [← hus1] at o1; have hus1' := Lib.hid hus1; have hu1l : us1.length ≤ 2048 := hA1.out _ hus1; clear hus1; obtain ⟨n1, c1, rfl, l1, _, _⟩ := Own.form o1; have b1 : Below wr.heap.size wr w1 := b0.grown g1 (by simp) (by intro k hk; cases hk; exact Nat.le_refl _); have o1' := Own.below o1 (below_alloc w1 (.cells #[.slice au p.length cu] 38)); have b1' := b1.alloc b1.size (.cells #[.slice au p.length cu] 38); have hr1 := row_one w1 (.slice au p.length cu) 38)
          | (at_builtin; refine app_outer rfl (.tmp 26) (.tmp 28) rfl rfl o1' rfl hr1 hone3'.out (by show us1.length + 1 ≤ 1099511627776; omega) b1'.size ?_; intro v2 w2 o2 g2; obtain ⟨us2, hus2⟩ : ∃ us2, us2 = (us1 ++ [.slice au p.length cu]) := ⟨_, rfl⟩; rw [← hus2] at o2; have hus2' := Lib.hid hus2; have hu2l : us2.length ≤ 2049 := (by rw [hus2, List.length_append]; show us1.length + 1 ≤ 2049; omega); clear hus2; obtain ⟨n2, c2, rfl, l2, _, _⟩ := Own.form o2; have b2 : Below wr.heap.size wr w2 := b1'.grown g2 b1'.size (fun b hb => (Own.lt o1' hb).1); have htl2 := RowAt.below htl'.out b2)
          | (at_builtin; refine app_outer rfl (.tmp 30) (.tmp 33) rfl rfl o2 rfl htl2 hone2'.out (by have := hA3.out; omega) b2.size ?_; intro v3 w3 o3 g3))
        have b3 : Below wr.heap.size wr w3 := b2.grown g3 b2.size (fun b hb => (Own.lt o2 hb).1)
        rw [hus2'.out, hus1'.out, List.nil_append] at o3
        have h3 := Lib.hid (H.out v3 w3 g.length hiW hlow.out hhi.out o3 b3)
        obtain ⟨n3, c3', rfl, _, _, _⟩ := Own.form o3
        go_wp2_with fail
        exact h3.out
      · have hne6 := hci
        have b0 := below_alloc wr (.cells #[] 38)
        have hup := RowAt.below (RowAt.upto hrow.out (k := g.length) (by omega)) b0
        have htl0 := RowAt.tail hrow.out (k := g.length) (by omega)
        have htl : RowAt wr (.slice (Option.map (fun x => x.add g.length) a6) 0 (ca - g.length)) (vs.drop g.length) := by
          rw [if_neg hci, Nat.sub_self] at htl0; exact htl0
        clear htl0
        have hi63 : (g.length : Int) ≤ g.length := by omega
        have hica : g.length ≤ ca := by omega
        have hone1 : ∀ y ∈ vs.take g.length, y.oneCell' = true := fun y hy => hone.out y (List.mem_of_mem_take hy)
        have hone2 : ∀ y ∈ vs.drop g.length, y.oneCell' = true := fun y hy => hone.out y (List.mem_of_mem_drop hy)
        have hA1 : Hid (∀ us1 : List Value, us1 = ([] ++ vs.take g.length) → us1.length ≤ 2048) := Lib.hid (fun z h => by rw [h, List.nil_append, List.length_take]; omega)
        have hA3 : Hid ((vs.drop g.length).length ≤ 2048) := Lib.hid (by rw [List.length_drop]; omega)
        have hone3' : Hid (∀ y ∈ [Value.slice au p.length cu], y.oneCell' = true) := Lib.hid (fun y hy => by rw [List.mem_singleton] at hy; rw [hy]; rfl)
        have htl' := Lib.hid htl
        have hup' := Lib.hid hup
        have hone1' := Lib.hid hone1
        have hone2' := Lib.hid hone2
        clear htl hup hone1 hone2
        go_wp2_with (first
          | (at_builtin; refine app_outer rfl (.tmp 21) (.tmp 24) rfl rfl (own_outer_empty wr) rfl hup'.out hone1'.out (by simp; omega) (by simp) ?_; intro v1 w1 o1 g1; change World.grownBy _ w1 (some wr.heap.size) at g1; obtain ⟨us1, hus1⟩ : ∃ us1, us1 = ([] ++ vs.take g.length) := ⟨_, rfl⟩; rw [← hus1] at o1; have hus1' := Lib.hid hus1; have hu1l : us1.length ≤ 2048 := hA1.out _ hus1; clear hus1; obtain ⟨n1, c1, rfl, l1, _, _⟩ := Own.form o1; have b1 : Below wr.heap.size wr w1 := b0.grown g1 (by simp) (by intro k hk; cases hk; exact Nat.le_refl _); have o1' := Own.below o1 (below_alloc w1 (.cells #[.slice au p.length cu] 38)); have b1' := b1.alloc b1.size (.cells #[.slice au p.length cu] 38); have hr1 := row_one w1 (.slice au p.length cu) 38)
          | (at_builtin; refine app_outer rfl (.tmp 26) (.tmp 28) rfl rfl o1' rfl hr1 hone3'.out (by show us1.length + 1 ≤ 1099511627776; omega) b1'.size ?_; intro v2 w2 o2 g2; obtain ⟨us2, hus2⟩ : ∃ us2, us2 = (us1 ++ [.slice au p.length cu]) := ⟨_, rfl⟩; rw [← hus2] at o2; have hus2' := Lib.hid hus2; have hu2l : us2.length ≤ 2049 := (by rw [hus2, List.length_append]; show us1.length + 1 ≤ 2049; omega); clear hus2; obtain ⟨n2, c2, rfl, l2, _, _⟩ := Own.form o2; have b2 : Below wr.heap.size wr w2 := b1'.grown g2 b1'.size (fun b hb => (Own.lt o1' hb).1); have htl2 := RowAt.below htl'.out b2)
          | (at_builtin; refine app_outer rfl (.tmp 30) (.tmp 33) rfl rfl o2 rfl htl2 hone2'.out (by have := hA3.out; omega) b2.size ?_; intro v3 w3 o3 g3))
        have b3 : Below wr.heap.size wr w3 := b2.grown g3 b2.size (fun b hb => (Own.lt o2 hb).1)
        rw [hus2'.out, hus1'.out, List.nil_append] at o3
        have h3 := Lib.hid (H.out v3 w3 g.length hiW hlow.out hhi.out o3 b3)
        obtain ⟨n3, c3', rfl, _, _, _⟩ := Own.form o3
        go_wp2_with fail
        exact h3.out
end Go.Proofs.Ytdjdagcgodpgdaa
/- All words, the next word, the patterns. -/
set_option linter.unusedVariables false
namespace Go.Proofs.Ytdjdagcgodpgdaa
open Go.RowKit

set_option maxHeartbeats 1600000 in
theorem wordsOf_i {n : Nat} {k : Int} {w : World} {Q : Ending → World → Prop} (hk1 : 1 ≤ k) (hk4 : k ≤ 4) (hn : n ≤ 10) (hp : k.toNat ^ n ≤ 1024)
    (hQ : ∀ v w', OwnRows w' w.heap.size w'.heap.size v (Perms.wordsN k.toNat n) → Below w.heap.size w w' → Q (.returned v) w') :
    Calls Try.prog 81 #[.int .i64 n, .int .i64 k] w Q := by
  have H := Lib.hid hQ; clear hQ
  have hp' := Lib.hid hp
  clear hp
  go_enter Try.func81, Try.ntmps81
  go_wp2_with fail
  go_loopg [5, 13] n (fun g b i wr => ∃ j : Nat, i = .int .i64 j ∧ Below w.heap.size w wr ∧ OwnRows wr w.heap.size wr.heap.size b (Perms.wordsN k.toNat j) ∧ j + g ≤ n ∧ n ≤ j + g)
  case atStart =>
    refine ⟨0, rfl, (below_alloc w _).alloc (by simp) _, ?_, by omega, by omega⟩
    have h := (own_rows_one (own_empty w) (by simp)).tight
    rw [show (w.alloc (.cells #[] 3)).heap.size = w.heap.size + 1 from by simp] at h
    exact h
  case round =>
    obtain ⟨i, rfl, hbw, ho, hm1, hm2⟩ := hrel
    by_cases hi : i < n
    · have i1 : (i : Int) < n := by omega
      have hlen := Lib.hid (Perms.wordsN_len k.toNat i)
      have hrow : Hid (∀ u ∈ Perms.wordsN k.toNat i, u.length = i) := Lib.hid fun u hu => (Perms.wordsN_mem.1 hu).1
      have hsz : Hid ((Perms.wordsN k.toNat i).length * k.toNat ≤ 1024) := Lib.hid (by
        have h1 := Perms.pow_up (k := k.toNat) (by omega) (show i + 1 ≤ n by omega)
        have h2 := hp'.out
        rw [Nat.pow_succ] at h1
        rw [Perms.wordsN_len]
        omega)
      have hnx : Hid (Perms.wordsN k.toNat (i + 1) = Perms.stepW k.toNat (Perms.wordsN k.toNat i)) := Lib.hid rfl
      obtain ⟨ws, hws⟩ : ∃ ws, ws = Perms.wordsN k.toNat i := ⟨_, rfl⟩
      rw [← hws] at ho hlen hrow hsz hnx
      clear hws
      obtain ⟨ab, cb, rfl, lb, lcb, ccb⟩ := ho.form
      obtain ⟨wi, hwi⟩ : ∃ wi : World, wi = wr := ⟨_, rfl⟩
      subst hwi
      obtain ⟨gi, hgi⟩ : ∃ g' : Nat, g' = gk := ⟨_, rfl⟩
      subst hgi
      go_wp2_with fail
      go_loopg [6, 18] ws.length (fun g b i wr => ∃ j : Nat, i = .int .i64 j ∧ Below wi.heap.size wi wr ∧ wi.heap.size ≤ wr.heap.size ∧
        OwnRows wr wi.heap.size wr.heap.size b (Perms.stepW k.toNat (ws.take j)) ∧ j + g ≤ ws.length ∧ ws.length ≤ j + g)
      case atStart =>
        exact ⟨0, rfl, below_alloc _ _, by simp, (own_rows_empty _).tight, by omega, by omega⟩
      case round =>
        obtain ⟨j, rfl, hbj, hsj, hnj, hj1, hj2⟩ := hrel
        by_cases hj : j < ws.length
        · have i2 : (j : Int) < ws.length := by omega
          obtain ⟨go, rfl, _, _, _⟩ := ho.head (by omega)
          obtain ⟨u, wd, hx, hcx, hiw, hub⟩ := (ho.under hbj).cell hj
          have hwl := Lib.hid (hrow.out wd (List.mem_of_getElem? hx.out))
          have hst : Hid (Perms.stepW k.toNat (ws.take (j + 1)) = Perms.stepW k.toNat (ws.take j) ++ (List.range k.toNat).map fun (x : Nat) => wd ++ [(x : Int)]) := Lib.hid (by
            rw [List.take_add_one, hx.out, Perms.stepW_append]
            show _ ++ Perms.stepW k.toNat [wd] = _
            rw [Perms.stepW_cons]
            simp [Perms.stepW])
          have hsl : Hid ((Perms.stepW k.toNat (ws.take j)).length + k.toNat ≤ 1024) := Lib.hid (by
            have h1 := hsz.out
            rw [Perms.stepW_len, List.length_take, Nat.min_eq_left (by omega)]
            have h2 : (j + 1) * k.toNat ≤ ws.length * k.toNat := Nat.mul_le_mul_right _ (by omega)
            rw [Nat.succ_mul] at h2
            omega)
          obtain ⟨wj, hwj⟩ : ∃ wj : World, wj = wr := ⟨_, rfl⟩
          subst hwj
          obtain ⟨gj, hgj⟩ : ∃ g' : Nat, g' = gk := ⟨_, rfl⟩
          subst hgj
          obtain ⟨a', c', rfl, _, _, _⟩ := Own.form hiw
          go_wp2_with fail
          go_loopg [6, 23] k.toNat (fun g b i wr => ∃ x : Nat, i = .int .i64 x ∧ Below wi.heap.size wj wr ∧ wi.heap.size ≤ wr.heap.size ∧ OwnRows wr wi.heap.size wr.heap.size b (Perms.stepW k.toNat (ws.take j) ++ (List.range x).map fun (x : Nat) => wd ++ [(x : Int)]) ∧ x + g ≤ k.toNat ∧ k.toNat ≤ x + g)
          case atStart => exact ⟨0, rfl, Below.refl _ _, hsj, by simpa using hnj, by omega, by omega⟩
          case round =>
            obtain ⟨x, rfl, hbx, hsx, hnx2, hx1, hx2⟩ := hrel
            by_cases hxk : x < k.toNat
            · have i3 : (x : Int) < k := by omega
              have hrx : Hid (((List.range (x + 1)).map fun (x : Nat) => wd ++ [(x : Int)]) = ((List.range x).map fun (x : Nat) => wd ++ [(x : Int)]) ++ [wd ++ [(x : Int)]]) := Lib.hid (by rw [List.range_succ]; simp)
              go_wp2_with fail
              refine Clone_c (OwnInts.at (OwnInts.under hiw hub hbx)) (by have := hwl.out; omega) ?_
              intro v4 w4 o4 b4
              obtain ⟨ao4, ca4, rfl, la4, lc4, cc4⟩ := Own.form o4
              have hs4 := b4.size
              have hl4 : Hid ((Perms.stepW k.toNat (ws.take j) ++ (List.range x).map fun (x : Nat) => wd ++ [(x : Int)]).length + 1 ≤ 1099511627776) := Lib.hid (by
                rw [List.length_append, List.length_map, List.length_range]
                have := hsl.out
                omega)
              go_wp2_with (first
                | (at_builtin; refine app_int rfl (.tmp 28) (.tmp 30) rfl rfl (OwnInts.below o4 (below_alloc w4 _)) rfl (cell_new _ _ _) (by have := hwl.out; omega) (by simp; omega) ?_; intro v5 w5 o5 g5; obtain ⟨ao5, ca5, rfl, la5, lc5, cc5⟩ := Own.form o5; have b5 : Below wr.heap.size wr w5 := (b4.alloc hs4 _).grown g5 (by simp; omega) (fun b hb => (OwnInts.lt o4 hb).1); have o6' := OwnInts.mono (OwnInts.below o5 (below_alloc w5 (.cells #[.slice ao5 (ints (wd ++ [(x : Int)])).length ca5] 38))) hsx)
                | (at_builtin; refine app_rows rfl (.tmp 26) (.tmp 32) rfl rfl (OwnRows.below (hnx2.below b5) (below_alloc w5 _)) rfl (cell_new _ _ _) o6' (fun b hb => (OwnInts.lt o5 hb).1) hl4.out (by have := b5.size; simp; omega) ?_; intro v6 w6 o6 t6))
              go_roundg (gk - 1)
              case measure => omega
              case rel =>
                have hs5 := b5.size
                have hs6 := t6.size
                simp at hs6
                refine ⟨x + 1, by go_num, ((hbx.trans (b5.mono hsx)).alloc (by omega) _).trans (t6.below (Nat.le_refl _) (by simp; omega)), by omega, by rw [hrx.out, ← List.append_assoc]; exact o6, by omega, by omega⟩
            · go_wp2_with fail
              go_roundg (gj - 1)
              case measure => omega
              case rel =>
                rw [show x = k.toNat from by omega, ← hst.out] at hnx2
                exact ⟨j + 1, by go_num, hbj.trans hbx, hsx, hnx2, by omega, by omega⟩
        · go_wp2_with fail
          go_roundg (gi - 1)
          case measure => omega
          case rel =>
            rw [List.take_of_length_le (by omega), ← hnx.out] at hnj
            exact ⟨i + 1, by go_num, hbw.trans (hbj.mono hbw.size), hnj.mono hbw.size (Nat.le_refl _), by omega, by omega⟩
    · obtain rfl : i = n := by omega
      go_wp2_with fail
      exact H.out _ _ ho hbw
end Go.Proofs.Ytdjdagcgodpgdaa
/- The patterns by enumeration. -/
set_option linter.unusedVariables false
namespace Go.Proofs.Ytdjdagcgodpgdaa
open Go.RowKit

end Go.Proofs.Ytdjdagcgodpgdaa
/- The patterns, on both sides. -/
set_option linter.unusedVariables false
namespace Go.Proofs.Ytdjdagcgodpgdaa
open Go.RowKit

set_option maxHeartbeats 1600000 in
theorem PatternsOf_i {vg : Value} {g : List (List Int)} {k : Int} {w : World} {Q : Ending → World → Prop} (hg : RowsAt w vg g)
    (hQ : ∀ v w', OwnRows w' w.heap.size w'.heap.size v (Perms.patsW g k) → Below w.heap.size w w' → Q (.returned (.tuple #[v, .bool (Perms.smallB g k)])) w') :
    Calls Try.prog 47 #[vg, .int .i64 k] w Q := by
  have H := Lib.hid hQ; clear hQ
  have hg0 := Lib.hid hg
  obtain ⟨aa, ca, rfl, la, lca, cca⟩ := hg.form
  have bad : ∀ w', Below w.heap.size w w' → Perms.smallB g k = false → Q (.returned (.tuple #[.slice none 0 0, .bool false])) w' := fun w' hb hf => by
    have := H.out (.slice none 0 0) w' (by unfold Perms.patsW; rw [if_neg (by rw [hf]; simp)]; exact OwnRows.nil _ _ _) hb
    rw [hf] at this; exact this
  have bad' := Lib.hid bad
  clear bad
  go_enter Try.func47, Try.ntmps47
  go_wp2_with fail
  refine GroupOk_i hg0.out ?_
  intro w1 b1
  by_cases hgb : Perms.grpB g = true
  rotate_left
  · have hgf : Perms.grpB g = false := by simpa using hgb
    have hf : Hid (Perms.smallB g k = false) := Lib.hid (by unfold Perms.smallB; rw [hgf]; rfl)
    clear hgb
    go_wp2_with fail
    exact bad'.out _ b1 hf.out
  have hn := (Perms.grpB_parts hgb).1
  obtain ⟨hr1, hr2⟩ := Perms.row0_len hgb
  have i1 : (0 : Int) < g.length := by omega
  obtain ⟨b, off, u, p, rfl, hx, hcw, hip⟩ := hg.cell (k := 0) (by omega)
  rw [Nat.add_zero] at hcw
  have hc := below_cells b1 _ _ hcw
  obtain ⟨ap, cp, rfl, lp, _, _⟩ := hip.form
  have hr0 : Hid (Perms.row0 g = p) := Lib.hid (by simp [Perms.row0, hx.out])
  rw [hr0.out] at hr1 hr2
  have hsm : Hid (Perms.smallB g k = (decide (1 ≤ k ∧ k ≤ 4) && decide (Nums.pw k p.length ≤ 1024))) := Lib.hid (by unfold Perms.smallB; rw [hgb, hr0.out, Bool.true_and])
  have hgb' := Lib.hid hgb
  go_wp2_with fail
  refine isSmall_i (by omega) (by omega) ?_
  rw [← hsm.out]
  by_cases hs0 : Perms.smallB g k = true
  rotate_left
  · have hf : Hid (Perms.smallB g k = false) := Lib.hid (by simpa using hs0)
    rw [hf.out]
    clear hgb hs0
    go_wp2_with fail
    exact bad'.out _ b1 hf.out
  have hs := Lib.hid hs0
  obtain ⟨_, hk1, hk4, hpw⟩ := Perms.smallB_parts hs0
  rw [hr0.out] at hpw
  have hpw' := Lib.hid hpw
  rw [hs.out]
  clear hgb hs0 hpw
  have hb1 := b1.size
  have hc2 := below_cells (below_alloc w1 (.cells #[] 38)) _ _ hc
  go_wp2_with fail
  refine wordsOf_i hk1 hk4 hr2 hpw'.out ?_
  intro vw w2 oW b2
  have hsz2 := b2.size
  simp at hsz2
  have hq : (w1.alloc (.cells #[] 38)).heap.size = w1.heap.size + 1 := by simp
  have hb12 : Below w1.heap.size w1 w2 := (below_alloc w1 _).trans (b2.mono (by simp))
  have hout1 := (Own.below (own_outer_empty w1) b2).mono hb1
  rw [hq] at oW
  have hpt : Hid (Perms.pats g k = (Perms.wordsN k.toNat p.length).filter (Perms.isPat g)) := Lib.hid (by unfold Perms.pats; rw [hr0.out])
  have hwl : Hid ((Perms.wordsN k.toNat p.length).length ≤ 1024) := Lib.hid (by rw [Perms.wordsN_len]; exact hpw'.out)
  have hwm : Hid (∀ w ∈ Perms.wordsN k.toNat p.length, w.length = p.length) := Lib.hid fun w hw => (Perms.wordsN_mem.1 hw).1
  obtain ⟨ws, hws⟩ : ∃ ws, ws = Perms.wordsN k.toNat p.length := ⟨_, rfl⟩
  rw [← hws] at hpt hwl hwm oW
  clear hws hpw' hq b2
  obtain ⟨us, hW, hWi, hWr⟩ := oW.parts
  obtain ⟨aw, cw, rfl, lw, _, _⟩ := oW.form
  have hWl := hWr.1
  go_wp2_with fail
  go_loopg [6, 29] ws.length (fun gg b i wr => ∃ (j go n cap : Nat) (is : List Nat), i = .int .i64 j ∧ b = .slice (some ⟨go, 0, none⟩) n cap ∧ Below w.heap.size w wr ∧ w2.heap.size ≤ wr.heap.size ∧ Hid (∀ q, w1.heap.size + 1 ≤ q → q < w2.heap.size → wr.heap[q]? = w2.heap[q]?) ∧
    Own wr w.heap.size 38 (.slice (some ⟨go, 0, none⟩) n cap) (is.map fun i => us.getD i nilV) ∧ Hid (go < w1.heap.size + 1 ∨ w2.heap.size ≤ go) ∧ Hid (is.Pairwise (· < ·)) ∧ Hid (∀ i ∈ is, i < j) ∧ Hid ((is.map fun i => ws.getD i []) = (ws.take j).filter (Perms.isPat g)) ∧ is.length ≤ j ∧
    j + gg ≤ ws.length ∧ ws.length ≤ j + gg)
  case atStart =>
    exact ⟨0, w1.heap.size, 0, 0, [], rfl, rfl, b1.trans (hb12.mono hb1), Nat.le_refl _, Lib.hid (fun _ _ _ => rfl), hout1, Lib.hid (.inl (Nat.lt_succ_self _)), Lib.hid List.Pairwise.nil, Lib.hid (by simp), Lib.hid (by simp), by simp, by omega, by omega⟩
  case round =>
    obtain ⟨j, go, n, cap, is, rfl, rfl, hbw, hs2, hkp, hou, haw, hpw, hil, hie, hisl, hm1, hm2⟩ := hrel
    have hWr' : Rows wr (w1.heap.size + 1) w2.heap.size us ws := hWr.kept fun q h1 h2 _ => hkp.out q h1 h2
    have hW' : Own wr (w1.heap.size + 1) 38 (.slice aw ws.length cw) us := Own.kept hW fun q hq => hkp.out q (Own.lt hW hq).1 (hWi q hq)
    by_cases hj : j < ws.length
    · have i2 : (j : Int) < ws.length := by omega
      obtain ⟨gw, rfl, _, _⟩ := hW'.head (by omega)
      obtain ⟨u, xs, hu, hxs, hxo, hxi⟩ := hWr'.get hj
      have hcu := hW'.cell hu.out
      have hxn := hwm.out xs (List.mem_of_getElem? hxs.out)
      have hxn' := Lib.hid hxn
      have hfit := Lib.hid (Perms.grp_fit (l := xs) hgb'.out (by rw [hr0.out]; exact hxn))
      obtain ⟨au, cu, rfl, lu, _, _⟩ := Own.form hxo
      have hwl' := hwl.out
      go_wp2_with fail
      refine canon_i (hg0.out.below hbw) (OwnInts.at hxo) hfit.out ?_
      intro v3 w3 o3 b3
      go_wp2_with fail
      refine Equal_c o3.at (OwnInts.at (OwnInts.below hxo b3)) ?_
      intro w4 d4
      have b34 : Below wr.heap.size wr w4 := b3.trans (d4.below _)
      have hbw4 : Below w.heap.size w w4 := hbw.trans (b34.mono hbw.size)
      have hou4 := Own.below hou b34
      have hs4 : w2.heap.size ≤ w4.heap.size := Nat.le_trans hs2 b34.size
      have hkp4 : Hid (∀ q, w1.heap.size + 1 ≤ q → q < w2.heap.size → w4.heap[q]? = w2.heap[q]?) := Lib.hid fun q h1 h2 => by
        rw [b34.block q (by omega)]; exact hkp.out q h1 h2
      by_cases hp : Perms.canon g xs = xs
      · have hd : Hid (decide (Perms.canon g xs = xs) = true) := Lib.hid (decide_eq_true hp)
        have hst := Perms.isPat g
        have hie2 : Hid (((is ++ [j]).map fun i => ws.getD i []) = (ws.take (j + 1)).filter (Perms.isPat g)) := Lib.hid (by
          have h := pick_step hie.out hxs.out
          rwa [if_pos (show Perms.isPat g xs = true from decide_eq_true hp)] at h)
        have hus : Hid (((is ++ [j]).map fun i => us.getD i nilV) = (is.map fun i => us.getD i nilV) ++ [.slice au (ints xs).length cu]) := Lib.hid (by
          rw [List.map_append]
          simp [List.getD, hu.out])
        clear hp hst
        rw [hd.out]
        have hbs4 := hbw4.size
        go_wp2_with (at_builtin; refine app_val rfl (.tmp 38) (.tmp 40) rfl rfl (Own.below hou4 (below_alloc w4 _)) rfl (cell_new _ _ _) rfl (by rw [List.length_map]; omega) (by simp; omega) ?_; intro go5 cap5 w5 o5 g5 n5)
        rw [← hus.out] at o5
        have hsz5 := g5.size
        simp at hsz5
        go_roundg (gk - 1)
        case measure => omega
        case rel =>
          refine ⟨j + 1, go5, _, cap5, is ++ [j], by go_num, rfl, (hbw4.alloc hbs4 _).grown g5 (by simp; omega) (fun b hb => by cases hb; exact (Own.lt hou4 rfl).1), by omega, Lib.hid fun q h1 h2 => ?_, o5, Lib.hid ?_, Lib.hid ?_, Lib.hid ?_, hie2, by simp; omega, by omega, by omega⟩
          · rw [g5.block q (by simp; omega) (by have := haw.out; intro e; cases e; omega), (below_alloc w4 _).block q (by omega)]
            exact hkp4.out q h1 h2
          · rcases n5 with rfl | h
            · exact haw.out
            · simp at h; omega
          · rw [List.pairwise_append]
            exact ⟨hpw.out, by simp, fun a ha b hb => by simp at hb; subst hb; exact hil.out a ha⟩
          · intro i hi
            rcases List.mem_append.1 hi with h | h
            · have := hil.out i h; omega
            · simp at h; omega
      · have hd : Hid (decide (Perms.canon g xs = xs) = false) := Lib.hid (decide_eq_false hp)
        have hie2 : Hid ((is.map fun i => ws.getD i []) = (ws.take (j + 1)).filter (Perms.isPat g)) := Lib.hid (by
          have h := pick_step hie.out hxs.out
          rwa [if_neg (by unfold Perms.isPat; rw [decide_eq_false hp]; simp)] at h)
        clear hp
        rw [hd.out]
        go_wp2_with fail
        go_roundg (gk - 1)
        case measure => omega
        case rel => exact ⟨j + 1, go, n, cap, is, by go_num, rfl, hbw4, hs4, hkp4, hou4, haw, hpw, Lib.hid (fun i hi => Nat.lt_succ_of_lt (hil.out i hi)), hie2, by omega, by omega, by omega⟩
    · have hfin := (hWr'.pick hpw.out (fun i hi => by have := hil.out i hi; omega)).mono (B' := w.heap.size) (E' := wr.heap.size) (by omega) hs2
      rw [hie.out, List.take_of_length_le (by omega), ← hpt.out] at hfin
      have h2 := H.out _ wr (by unfold Perms.patsW; rw [if_pos hs.out]; exact hfin.whole hou hou.inBlk) hbw
      rw [hs.out] at h2
      have h3 := Lib.hid h2
      clear h2 hfin
      go_wp2_with fail
      exact h3.out
end Go.Proofs.Ytdjdagcgodpgdaa
