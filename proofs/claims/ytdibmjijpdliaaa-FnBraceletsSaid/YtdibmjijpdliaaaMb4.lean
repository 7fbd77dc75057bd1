/-
  Part 4 of 5 of what the law FnBracelets rests on.
-/
import Derived.Test.YtdibmjijpdliaaaMb3
import Derived.ArgAppend
import Derived.Deep.DeepAppendRoom
import Derived.BigRegion
set_option maxRecDepth 20000
/- Slices of slices, in two parts: the outer row, and what its values are. -/
set_option linter.unusedVariables false
namespace Go.Proofs.Ytdibmjijpdliaaa
open Go.RowKit

/-- The values us are slices of integers of the call's own, that hold xss: each lies in a block of its own, from B up to E. -/
def Rows (w : World) (B E : Nat) (us : List Value) (xss : List (List Int)) : Prop :=
  us.length = xss.length ∧ (∀ (k : Nat) (xs : List Int), xss[k]? = some xs → ∃ u, us[k]? = some u ∧ OwnInts w B u xs ∧ inB u E) ∧
    ∀ (i j : Nat) (u u' : Value), i < j → us[i]? = some u → us[j]? = some u' → apart u u'
theorem OwnRows.parts {w : World} {B E : Nat} {v : Value} {xss : List (List Int)} (h : OwnRows w B E v xss) : ∃ us, Own w B 25 v us ∧ inB v E ∧ Rows w B E us xss := by
  obtain ⟨us, h1, h2, h3, h4, h5⟩ := h
  exact ⟨us, h1, h2, h3, h4, h5⟩
theorem Rows.whole {w : World} {B E : Nat} {v : Value} {us : List Value} {xss : List (List Int)} (h : Rows w B E us xss) (ho : Own w B 25 v us) (hi : inB v E) : OwnRows w B E v xss :=
  ⟨us, ho, hi, h.1, h.2.1, h.2.2⟩
theorem Rows.kept {w w' : World} {B E : Nat} {us : List Value} {xss : List (List Int)} (h : Rows w B E us xss) (hw : ∀ k, B ≤ k → k < E → k < w.heap.size → w'.heap[k]? = w.heap[k]?) : Rows w' B E us xss :=
  ⟨h.1, fun k xs hk => by
    obtain ⟨u, a, b, c⟩ := h.2.1 k xs hk
    exact ⟨u, a, Own.kept b fun q hq => hw q (Own.lt b hq).1 (c q hq) (Own.lt b hq).2, c⟩, h.2.2⟩
theorem Rows.below {w w' : World} {B E : Nat} {us : List Value} {xss : List (List Int)} (h : Rows w B E us xss) (hb : Below w.heap.size w w') : Rows w' B E us xss := h.kept fun k _ _ hk => hb.block k hk
theorem Rows.drawn {w w' : World} {B E : Nat} {us : List Value} {xss : List (List Int)} (h : Rows w B E us xss) (hd : Drawn w w') : Rows w' B E us xss := h.kept fun k _ _ _ => by rw [hd.heap]
/-- A change of the outer row, or of a block below or above. -/
theorem Rows.grown {w w' : World} {B E : Nat} {us : List Value} {xss : List (List Int)} {row : Option Nat} (h : Rows w B E us xss) (hg : w.grownBy w' row) (hr : ∀ k, row = some k → k < B ∨ E ≤ k) : Rows w' B E us xss :=
  h.kept fun k h1 h2 h3 => hg.block k h3 fun e => by have := hr k e.symm; omega
/-- A change of a block that holds other things than integers. -/
theorem Rows.outer {w w' : World} {B E : Nat} {us : List Value} {xss : List (List Int)} (h : Rows w B E us xss) {B' : Nat} {v : Value} {zs : List Value} (ho : Own w B' 25 v zs) (hg : w.grownBy w' v.ownBlock) : Rows w' B E us xss :=
  ⟨h.1, fun k xs hk => by
    obtain ⟨u, a, b, c⟩ := h.2.1 k xs hk
    exact ⟨u, a, Own.grown b hg (own_types ho b (by decide)), c⟩, h.2.2⟩
theorem Rows.mono {w : World} {B B' E E' : Nat} {us : List Value} {xss : List (List Int)} (h : Rows w B E us xss) (hB : B' ≤ B) (hE : E ≤ E') : Rows w B' E' us xss :=
  ⟨h.1, fun k xs hk => by
    obtain ⟨u, a, b, c⟩ := h.2.1 k xs hk
    exact ⟨u, a, Own.mono b hB, c.mono hE⟩, h.2.2⟩
theorem Rows.tight {w : World} {B E : Nat} {us : List Value} {xss : List (List Int)} (h : Rows w B E us xss) : Rows w B w.heap.size us xss :=
  ⟨h.1, fun k xs hk => by
    obtain ⟨u, a, b, c⟩ := h.2.1 k xs hk
    exact ⟨u, a, b, Own.inBlk b⟩, h.2.2⟩
theorem OwnInts.under {w w' : World} {B E : Nat} {v : Value} {xs : List Int} (h : OwnInts w B v xs) (hi : inB v E) (hb : Below E w w') : OwnInts w' B v xs := Own.kept h fun k hk => hb.block k (hi k hk)
theorem OwnRows.under {w w' : World} {B E : Nat} {v : Value} {xss : List (List Int)} (h : OwnRows w B E v xss) (hb : Below E w w') : OwnRows w' B E v xss := h.kept fun k _ hk _ => hb.block k hk
theorem Rows.under {w w' : World} {B E : Nat} {us : List Value} {xss : List (List Int)} (h : Rows w B E us xss) (hb : Below E w w') : Rows w' B E us xss := h.kept fun k _ hk _ => hb.block k hk
theorem Rows.nil (w : World) (B E : Nat) : Rows w B E [] [] := ⟨rfl, fun k xs h => by simp at h, fun i j u u' _ h => by simp at h⟩
theorem Rows.get {w : World} {B E : Nat} {us : List Value} {xss : List (List Int)} (h : Rows w B E us xss) {k : Nat} (hk : k < xss.length) :
    ∃ u xs, Hid (us[k]? = some u) ∧ Hid (xss[k]? = some xs) ∧ OwnInts w B u xs ∧ inB u E := by
  obtain ⟨u, a, b, c⟩ := h.2.1 k _ (List.getElem?_eq_getElem hk)
  exact ⟨u, _, Lib.hid a, Lib.hid (List.getElem?_eq_getElem hk), b, c⟩
theorem Rows.push {w : World} {B E : Nat} {us : List Value} {xss : List (List Int)} (h : Rows w B E us xss) {u : Value} {xs : List Int} (hu : OwnInts w B u xs) (hf : ∀ b, u.ownBlock = some b → E ≤ b) : Rows w B w.heap.size (us ++ [u]) (xss ++ [xs]) := by
  obtain ⟨h3, h4, h5⟩ := h
  refine ⟨by simp [h3], fun k zs hk => ?_, fun i j z z' hij hz hz' => ?_⟩
  · by_cases e : k < xss.length
    · rw [List.getElem?_append_left e] at hk
      obtain ⟨z, a, b, c⟩ := h4 k zs hk
      exact ⟨z, by rw [List.getElem?_append_left (by omega)]; exact a, b, Own.inBlk b⟩
    · have hk' := (List.getElem?_eq_some_iff.1 hk).1
      rw [List.length_append, List.length_singleton] at hk'
      obtain rfl : k = xss.length := by omega
      rw [List.getElem?_append_right (Nat.le_refl _), Nat.sub_self] at hk
      simp at hk
      subst hk
      exact ⟨u, by rw [← h3, List.getElem?_append_right (Nat.le_refl _), Nat.sub_self]; rfl, hu, Own.inBlk hu⟩
  · by_cases ej : j < us.length
    · rw [List.getElem?_append_left (by omega)] at hz
      rw [List.getElem?_append_left ej] at hz'
      exact h5 i j z z' hij hz hz'
    · have hj' := (List.getElem?_eq_some_iff.1 hz').1
      rw [List.length_append, List.length_singleton] at hj'
      obtain rfl : j = us.length := by omega
      rw [List.getElem?_append_right (Nat.le_refl _), Nat.sub_self] at hz'
      simp at hz'
      subst hz'
      rw [List.getElem?_append_left hij] at hz
      obtain ⟨z2, a, _, c⟩ := h4 i _ (List.getElem?_eq_getElem (show i < xss.length by omega))
      rw [hz] at a
      obtain rfl := Option.some.inj a
      unfold apart
      cases hb : z.ownBlock with
      | none => exact .inl rfl
      | some b =>
        refine .inr fun e => ?_
        have a := hf b e.symm
        have c := c b hb
        omega
def nilV : Value := Value.slice (Option.none) 0 0
/-- Some of the rows, in their order. -/
theorem Rows.pick {w : World} {B E : Nat} {us : List Value} {xss : List (List Int)} (h : Rows w B E us xss) {is : List Nat} (hp : is.Pairwise (· < ·)) (hl : ∀ i ∈ is, i < xss.length) :
    Rows w B E (is.map fun i => us.getD i nilV) (is.map fun i => xss.getD i []) := by
  obtain ⟨h3, h4, h5⟩ := h
  refine ⟨by simp, fun k xs hk => ?_, fun i j z z' hij hz hz' => ?_⟩
  · rw [List.getElem?_map, Option.map_eq_some_iff] at hk
    obtain ⟨i, hi, rfl⟩ := hk
    have hil := hl i (List.mem_of_getElem? hi)
    obtain ⟨u, a, b, c⟩ := h4 i _ (List.getElem?_eq_getElem hil)
    have e : xss.getD i [] = xss[i] := by simp [List.getD, List.getElem?_eq_getElem hil]
    refine ⟨u, ?_, by rw [e]; exact b, c⟩
    rw [List.getElem?_map, hi]
    simp [List.getD, a]
  · rw [List.getElem?_map, Option.map_eq_some_iff] at hz hz'
    obtain ⟨a, ha, rfl⟩ := hz
    obtain ⟨b, hb, rfl⟩ := hz'
    have hal := hl a (List.mem_of_getElem? ha)
    have hbl := hl b (List.mem_of_getElem? hb)
    have hab : a < b := by
      rw [List.pairwise_iff_getElem] at hp
      obtain ⟨x1, rfl⟩ := List.getElem?_eq_some_iff.1 ha
      obtain ⟨x2, rfl⟩ := List.getElem?_eq_some_iff.1 hb
      exact hp i j x1 x2 hij
    refine h5 a b _ _ hab ?_ ?_
    · simp [List.getD, List.getElem?_eq_getElem (show a < us.length by omega)]
    · simp [List.getD, List.getElem?_eq_getElem (show b < us.length by omega)]
theorem pick_step {α : Type} {l : List α} {d : α} {f : α → Bool} {is : List Nat} {j : Nat} {x : α} (h : (is.map fun i => l.getD i d) = (l.take j).filter f) (hx : l[j]? = some x) :
    ((if f x = true then is ++ [j] else is).map fun i => l.getD i d) = (l.take (j + 1)).filter f := by
  rw [List.take_add_one, hx, List.filter_append]
  by_cases hf : f x = true
  · rw [if_pos hf, List.map_append, h]
    simp [hf, List.getD, hx]
  · rw [if_neg hf, h]
    simp [hf]
/-- 'append(s, row)' of one row: s is the call's own, the row may be anyone's. -/
theorem app_val {w : World} {ops : Array Oper} {rest : List Oper} {o : Oper} {a : Act} {Q : Exit → Act → World → Prop} (hg : o.guard = none) (s x : Operand) (hop : o.op = .call { callee := .builtin .append, args := #[s, x], argTypes := #[23, 23] })
    {B g n cap : Nat} {u : Value} {us : List Value} (hs : a.eval s = .slice (some ⟨g, 0, none⟩) n cap) (hown : Own w B 25 (.slice (some ⟨g, 0, none⟩) n cap) us) {ad : Addr} {c : Nat} (hx : a.eval x = .slice (some ad) 1 c) (hu : w.cell? ad = some u)
    (h1 : u.oneCell' = true) (hn : us.length + 1 ≤ 1099511627776) (hB : B ≤ w.heap.size)
    (hK : ∀ g' cap' w', Own w' B 25 (.slice (some ⟨g', 0, none⟩) (n + 1) cap') (us ++ [u]) → w.grownBy w' (some g) → (g' = g ∨ w.heap.size ≤ g') → wpList Try.prog ops Q rest (a.put o.dst (.slice (some ⟨g', 0, none⟩) (n + 1) cap')) w') :
    wpList Try.prog ops Q (o :: rest) a w := by
  obtain ⟨i0, hi, hz0, hz1, hz2⟩ := info_parts Try.infoInts
  obtain rfl := hown.len
  have hc1 : ∀ (j : Nat) (y : Value), [u][j]? = some y → w.cell? (ad.add j) = some y := by
    intro j y hy
    match j, hy with
    | 0, hy =>
      simp at hy; subst hy
      have : ad.add 0 = ad := by unfold Addr.add; split <;> simp_all
      rw [this]; exact hu
  have ho1 : ∀ y ∈ [u], y.oneCell' = true := by intro y hy; simp at hy; subst hy; exact h1
  by_cases hr : us.length + 1 ≤ cap
  · refine wpList_append_own_spare w hg s x 23 hop B 25 i0 1 Try.underlying23 hi hz1 g us.length cap us hs hown ad 1 c [u] hx rfl hc1 ho1 hr ?_
    intro w' h2 h3
    have e : (us ++ [u]).length = us.length + 1 := by simp
    exact hK g cap w' (by unfold Own; rw [e]; exact h2) h3 (.inl rfl)
  · refine wpList_append_arg w hg s x 23 hop 25 i0 (.slice none 0 0) 1 24 Try.underlying23 hi hz0 hz1 hz2 rfl (by decide) g 0 us.length cap us hs (by simp) (fun j y hy => by rw [Nat.zero_add]; exact hown.cell hy) ad 1 c [u] hx rfl hc1 ho1
      (fun h => absurd h hr) (by unfold maxLen; omega) (by omega) (fun h => absurd h hr) ?_
    intro _ v' w' h2 h3
    have h2' : Own w' w.heap.size 25 v' (us ++ [u]) := by unfold Own; rw [List.length_append]; exact h2
    obtain ⟨ao, c', rfl, _, _, _⟩ := Own.form h2'
    obtain ⟨g', rfl, hg1, hg2⟩ := h2'.head (by simp)
    have e : (us ++ [u]).length = us.length + 1 := by simp
    rw [e] at h2'
    have h4 := hK g' c' w' (h2'.mono hB) ⟨h3.os, h3.tape, h3.output, h3.size, fun k hk _ => h3.block k hk (by simp)⟩ (.inr hg1)
    rw [e]
    exact h4
/-- '[][]int{}', its outer row. -/
theorem own_outer_empty (w : World) : Own (w.alloc (.cells #[] 25)) w.heap.size 25 (.slice (some ⟨w.heap.size, 0, none⟩) 0 0) [] :=
  World.ownsRow_lit (size := 1) w #[] 0 (Nat.le_refl _) (by unfold maxLen; omega) rfl
/-- '[][]int{row}'. -/
theorem own_rows_one {w : World} {B : Nat} {u : Value} {xs : List Int} (hu : OwnInts w B u xs) (hB : B ≤ w.heap.size) : OwnRows (w.alloc (.cells #[u] 25)) B (w.heap.size + 1) (.slice (some ⟨w.heap.size, 0, none⟩) 1 1) [xs] :=
  ⟨[u], Own.mono (World.ownsRow_lit (size := 1) w #[u] 1 (Nat.le_refl _) (by unfold maxLen; omega) rfl) hB, (fun k hk => by cases hk; exact Nat.lt_succ_self _), rfl,
    (fun k zs h => by
      match k, h with
      | 0, h =>
        simp at h; subst h
        exact ⟨u, rfl, OwnInts.below hu (below_alloc w _), fun q hq => Nat.lt_succ_of_lt (OwnInts.lt hu hq).2⟩), fun i j z z' hij h h' => by
      have := (List.getElem?_eq_some_iff.1 h').1
      simp at this
      omega⟩
end Go.Proofs.Ytdibmjijpdliaaa
/- More on slices of slices. -/
set_option linter.unusedVariables false
namespace Go.Proofs.Ytdibmjijpdliaaa
open Go.RowKit

theorem Rows.append {w : World} {B B2 E E2 : Nat} {us us2 : List Value} {xss yss : List (List Int)} (h : Rows w B E us xss) (h2 : Rows w B2 E2 us2 yss) (hB : B ≤ B2) (hE : E ≤ B2) (hE2 : B2 ≤ E2) : Rows w B E2 (us ++ us2) (xss ++ yss) := by
  obtain ⟨h3, h4, h5⟩ := h
  obtain ⟨k3, k4, k5⟩ := h2
  refine ⟨by simp [h3, k3], fun k zs hk => ?_, fun i j z z' hij hz hz' => ?_⟩
  · by_cases e : k < xss.length
    · rw [List.getElem?_append_left e] at hk
      obtain ⟨z, a, b, c⟩ := h4 k zs hk
      exact ⟨z, by rw [List.getElem?_append_left (by omega)]; exact a, b, c.mono (by omega)⟩
    · rw [List.getElem?_append_right (by omega)] at hk
      obtain ⟨z, a, b, c⟩ := k4 _ zs hk
      exact ⟨z, by rw [List.getElem?_append_right (by omega), h3]; exact a, Own.mono b hB, c⟩
  · by_cases ej : j < us.length
    · rw [List.getElem?_append_left (by omega)] at hz
      rw [List.getElem?_append_left ej] at hz'
      exact h5 i j z z' hij hz hz'
    · rw [List.getElem?_append_right (by omega)] at hz'
      by_cases ei : i < us.length
      · rw [List.getElem?_append_left ei] at hz
        obtain ⟨z2, a, _, c⟩ := h4 i _ (List.getElem?_eq_getElem (show i < xss.length by omega))
        rw [hz] at a
        obtain rfl := Option.some.inj a
        obtain ⟨z3, a3, b3, c3⟩ := k4 (j - us.length) _ (List.getElem?_eq_getElem (show j - us.length < yss.length by have := (List.getElem?_eq_some_iff.1 hz').1; omega))
        rw [hz'] at a3
        obtain rfl := Option.some.inj a3
        unfold apart
        cases hb : z.ownBlock with
        | none => exact .inl rfl
        | some b =>
          refine .inr fun e => ?_
          have h1 := c b hb
          have h2 := (Own.lt b3 e.symm).1
          omega
      · rw [List.getElem?_append_right (by omega)] at hz
        exact k5 _ _ z z' (by omega) hz hz'
theorem Rows.one {w : World} {B E : Nat} {us : List Value} {xss : List (List Int)} (h : Rows w B E us xss) : ∀ y ∈ us, y.oneCell' = true := fun y hy => by
  obtain ⟨k, hk⟩ := List.getElem?_of_mem hy
  have hl := (List.getElem?_eq_some_iff.1 hk).1
  obtain ⟨u, xs, hu, _, hou, _⟩ := h.get (k := k) (by have := h.1; omega)
  obtain ⟨au, cu, rfl, _, _, _⟩ := Own.form hou
  rw [hu.out] at hk
  obtain rfl := Option.some.inj hk
  rfl
/-- 'append(s, rows...)': s is the call's own, the rows may be anyone's. -/
theorem app_outer {w : World} {ops : Array Oper} {rest : List Oper} {o : Oper} {a : Act} {Q : Exit → Act → World → Prop} (hg : o.guard = none) (s x : Operand) (hop : o.op = .call { callee := .builtin .append, args := #[s, x], argTypes := #[23, 23] })
    {B : Nat} {v u : Value} {us ys : List Value} (hs : a.eval s = v) (hown : Own w B 25 v us) (hx : a.eval x = u) (hrow : RowAt w u ys) (h1 : ∀ y ∈ ys, y.oneCell' = true)
    (hn : us.length + ys.length ≤ 1099511627776) (hB : B ≤ w.heap.size)
    (hK : ∀ v' w', Own w' B 25 v' (us ++ ys) → w.grownBy w' v.ownBlock → wpList Try.prog ops Q rest (a.put o.dst v') w') :
    wpList Try.prog ops Q (o :: rest) a w :=
  app_row 23 25 (.slice none 0 0) 24 Try.infoInts Try.underlying23 rfl hg s x hop hs hown hx hrow h1 (by omega) (by unfold maxLen; omega) hB hK
theorem addr_add (b f i : Nat) : Addr.add ⟨b, f, none⟩ i = ⟨b, f + i, none⟩ := by
  unfold Addr.add
  by_cases h : i = 0
  · rw [if_pos h, h]; rfl
  · rw [if_neg h]
theorem RowsAt.one {w : World} {vs : List Value} {xss : List (List Int)} (hl : vs.length = xss.length) (h : ∀ (k : Nat) (xs : List Int), xss[k]? = some xs → ∃ u, vs[k]? = some u ∧ IntsAt w u xs) : ∀ y ∈ vs, y.oneCell' = true := fun y hy => by
  obtain ⟨k, hk⟩ := List.getElem?_of_mem hy
  have hkl := (List.getElem?_eq_some_iff.1 hk).1
  obtain ⟨u, hu, hi⟩ := h k _ (List.getElem?_eq_getElem (show k < xss.length by omega))
  rw [hk] at hu
  obtain rfl := Option.some.inj hu
  obtain ⟨_, _, rfl, _⟩ := hi.form
  rfl
theorem row_one (w : World) (v : Value) (T : TypeId) : RowAt (w.alloc (.cells #[v] T)) (.slice (some ⟨w.heap.size, 0, none⟩) 1 1) [v] := by
  refine ⟨some ⟨w.heap.size, 0, none⟩, 1, rfl, Nat.le_refl _, by unfold maxLen; omega, (fun h => by cases h), ?_⟩
  intro k x hk
  cases k with
  | zero =>
    simp at hk; subst hk
    exact ⟨w.heap.size, 0, rfl, cell_new w v T⟩
  | succ k => simp at hk
/-- A variable on the heap, of one cell. -/
def BoxAt (w : World) (b : Nat) (T : TypeId) (v : Value) : Prop := w.heap[b]? = some (.cells #[v] T (0, 0))
theorem BoxAt.cell {w : World} {b : Nat} {T : TypeId} {v : Value} (h : BoxAt w b T v) : w.cell? ⟨b, 0, none⟩ = some v := by
  rw [cell_of_row w b 0 _ _ _ h]; rfl
theorem BoxAt.frozen {w : World} {b : Nat} {T : TypeId} {v : Value} (h : BoxAt w b T v) : w.frozen? ⟨b, 0, none⟩ = false := by
  unfold BoxAt at h
  simp [World.frozen?, h]
theorem BoxAt.set {w : World} {b : Nat} {T : TypeId} {v : Value} (h : BoxAt w b T v) (u : Value) : BoxAt (w.setCell ⟨b, 0, none⟩ u) b T u := by
  unfold BoxAt at h ⊢
  simp [World.setCell, Array.getElem?_modify, h]
theorem BoxAt.lt {w : World} {b : Nat} {T : TypeId} {v : Value} (h : BoxAt w b T v) : b < w.heap.size := (Array.getElem?_eq_some_iff.1 h).1
theorem BoxAt.below {w w' : World} {b : Nat} {T : TypeId} {v : Value} (h : BoxAt w b T v) (hb : Below w.heap.size w w') : BoxAt w' b T v := by
  unfold BoxAt at h ⊢
  rw [hb.block b (Array.getElem?_eq_some_iff.1 h).1]; exact h
theorem BoxAt.drawn {w w' : World} {b : Nat} {T : TypeId} {v : Value} (h : BoxAt w b T v) (hd : Drawn w w') : BoxAt w' b T v := by
  unfold BoxAt at h ⊢
  rw [hd.heap]; exact h
theorem BoxAt.grown {w w' : World} {b : Nat} {T : TypeId} {v : Value} {row : Option Nat} (h : BoxAt w b T v) (hg : w.grownBy w' row) (hr : row ≠ some b) : BoxAt w' b T v := by
  unfold BoxAt at h ⊢
  rw [hg.block b (Array.getElem?_eq_some_iff.1 h).1 (fun e => hr e.symm)]; exact h
/-- A box holds another type than a row of the call's own. -/
theorem BoxAt.apart {w : World} {b B : Nat} {T T' : TypeId} {v u : Value} {xs : List Value} (h : BoxAt w b T v) (ho : Own w B T' u xs) (hT : T ≠ T') : u.ownBlock ≠ some b := by
  intro e
  obtain ⟨cur, hc⟩ := ho.block e
  unfold BoxAt at h
  rw [h] at hc
  cases hc
  exact hT rfl
end Go.Proofs.Ytdibmjijpdliaaa
/- Words in reverse order. -/
set_option linter.unusedVariables false
namespace Go.Proofs.Ytdibmjijpdliaaa
open Go.RowKit

namespace Words
/-- ys is xs with its first r and its last r elements exchanged. -/
def RevTo (xs ys : List Int) (r : Nat) : Prop := ys.length = xs.length ∧ ∀ i, i < xs.length → ys[i]? = if i < r ∨ xs.length ≤ i + r then xs[xs.length - 1 - i]? else xs[i]?
theorem RevTo.zero (xs : List Int) : RevTo xs xs 0 := ⟨rfl, fun i hi => by rw [if_neg (by omega)]⟩
theorem RevTo.step {xs ys : List Int} {r : Nat} {x y : Int} (h : RevTo xs ys r) (hr : r + r + 1 < xs.length) (hx : ys[r]? = some x) (hy : ys[xs.length - 1 - r]? = some y) :
    RevTo xs ((ys.set r y).set (xs.length - 1 - r) x) (r + 1) := by
  obtain ⟨h1, h2⟩ := h
  refine ⟨by rw [List.length_set, List.length_set]; exact h1, fun i hi => ?_⟩
  have e1 := h2 r (by omega)
  rw [if_neg (by omega), hx] at e1
  have e2 := h2 (xs.length - 1 - r) (by omega)
  rw [if_neg (by omega), hy] at e2
  by_cases a : i = xs.length - 1 - r
  · subst a
    rw [List.getElem?_set_self (by rw [List.length_set]; omega), if_pos (by omega), show xs.length - 1 - (xs.length - 1 - r) = r from by omega, e1]
  · rw [List.getElem?_set_ne (by omega)]
    by_cases b : i = r
    · subst b
      rw [List.getElem?_set_self (by omega), if_pos (by omega), e2]
    · rw [List.getElem?_set_ne (by omega), h2 i hi]
      by_cases c : i < r ∨ xs.length ≤ i + r
      · rw [if_pos c, if_pos (by omega)]
      · rw [if_neg c, if_neg (by omega)]
theorem RevTo.done {xs ys : List Int} {r : Nat} (h : RevTo xs ys r) (hr : xs.length ≤ r + r + 1) : ys = xs.reverse := by
  obtain ⟨h1, h2⟩ := h
  apply List.ext_getElem?
  intro i
  by_cases hi : i < xs.length
  · rw [h2 i hi, List.getElem?_reverse hi]
    by_cases c : i < r ∨ xs.length ≤ i + r
    · rw [if_pos c]
    · rw [if_neg c, show xs.length - 1 - i = i from by omega]
  · rw [List.getElem?_eq_none (by omega), List.getElem?_eq_none (by rw [List.length_reverse]; omega)]
end Words
theorem grown_drewN {w w' : World} {row : Option Nat} (h : w.grownBy w' row) (n : Nat) : w.grownBy (w'.drewN n) row := ⟨h.os, h.tape, h.output, h.size, h.block⟩

set_option maxHeartbeats 800000 in
theorem Reverse_c {v : Value} {xs : List Int} {B : Nat} {w : World} {Q : Ending → World → Prop} (ho : OwnInts w B v xs)
    (hQ : ∀ w', OwnInts w' B v xs.reverse → w.grownBy w' v.ownBlock → Q (.returned (.tuple #[])) w') :
    Calls Try.prog 82 #[v] w Q := by
  have H := Lib.hid hQ; clear hQ
  obtain ⟨aa, ca, rfl, la, lca, cca⟩ := Own.form ho
  rw [ints_len] at *
  go_enter Try.func82, Try.ntmps82
  go_wp2
  go_loopg [2, 3] xs.length (fun g i q wr => ∃ (r : Nat) (m : Int) (ys : List Int), i = .int .i64 r ∧ q = .int .i64 m ∧ OwnInts wr B (.slice aa xs.length ca) ys ∧ w.grownBy wr (Value.ownBlock (.slice aa xs.length ca)) ∧ Hid (Words.RevTo xs ys r) ∧ Hid (m = (xs.length : Int) - 1 - r) ∧ Hid (m < xs.length) ∧ r + g = xs.length)
  case atStart => exact ⟨0, _, xs, rfl, rfl, ho, World.grownBy.refl _ _, Lib.hid (Words.RevTo.zero xs), Lib.hid (by omega), Lib.hid (by omega), by omega⟩
  case round =>
    obtain ⟨r, m, ys, rfl, rfl, hr, hg, hR, hm, hm2, hk⟩ := hrel
    have hyl : Hid (ys.length = xs.length) := Lib.hid hR.out.1
    by_cases hj : (r : Int) < m
    · obtain ⟨q, rfl⟩ : ∃ q : Nat, m = q := ⟨m.toNat, by omega⟩
      have hq : Hid (q = xs.length - 1 - r) := Lib.hid (by have := hm.out; omega)
      have h1 := hm.out
      have h2 := hyl.out
      obtain ⟨b, rfl, hb1, hb2⟩ := Own.head hr (by rw [ints_len]; omega)
      obtain ⟨x, hx, hcx⟩ := OwnInts.cell hr (k := r) (by omega)
      obtain ⟨y, hy, hcy⟩ := OwnInts.cell hr (k := q) (by omega)
      have hf1 := Own.frozen hr r
      have hf2 := Own.frozen hr q
      have i1 : (r : Int) < xs.length := by omega
      have i2 : (q : Int) < xs.length := by omega
      have hne : r ≠ q := by omega
      have hk' : r < xs.length := by omega
      have hk0 := Lib.hid hk
      clear h1 h2 hk
      go_wp2
      go_region
      go_wp2
      go_roundg (gk - 1)
      case measure => have := hk0.out; omega
      case rel =>
        have e1 := hq.out
        have e2 := hm.out
        have e3 := hk0.out
        have hR' : Words.RevTo xs ((ys.set r y).set q x) (r + 1) := by
          rw [e1]; rw [e1] at hy
          exact Words.RevTo.step hR.out (by omega) hx.out hy.out
        exact ⟨r + 1, (q : Int) - 1, (ys.set r y).set q x, by go_num, rfl, Own.drawn (OwnInts.set (OwnInts.set hr r y) q x) (Drawn.one _ 1), grown_drewN (grown_trans hg (grown_trans (grown_set _ _ _ _) (grown_set _ _ _ _))) 1, Lib.hid hR', Lib.hid (by omega), Lib.hid (by omega), by omega⟩
    · go_wp2
      go_end0
      have e : ys = xs.reverse := hR.out.done (by have := hm.out; omega)
      subst e
      exact H.out _ hr hg
set_option maxHeartbeats 400000 in
theorem mirror_i {va : Value} {xs : List Int} {w : World} {Q : Ending → World → Prop} (ha : IntsAt w va xs) (hn : xs.length ≤ 1048576)
    (hQ : ∀ v w', OwnInts w' w.heap.size v xs.reverse → Below w.heap.size w w' → Q (.returned v) w') :
    Calls Try.prog 83 #[va] w Q := by
  have H := Lib.hid hQ; clear hQ
  go_enter Try.func83, Try.ntmps83
  go_wp2_with fail
  refine Clone_c ha (by omega) ?_; intro v1 w1 o1 b1
  go_wp2_with fail
  refine Reverse_c o1 ?_; intro w2 o2 g2
  go_wp2
  exact H.out _ _ o2 (b1.grown g2 b1.size (fun k hk => (Own.lt o1 hk).1))
end Go.Proofs.Ytdibmjijpdliaaa
/- Least rotations, periods, and what follows from them. -/
set_option linter.unusedVariables false
namespace Go.Proofs.Ytdibmjijpdliaaa
open Go.RowKit

set_option maxHeartbeats 1000000 in
theorem LeastRotation_i {va : Value} {xs : List Int} {w : World} {Q : Ending → World → Prop} (ha : IntsAt w va xs) (hn : xs.length ≤ 1048576)
    (hQ : ∀ v w', OwnInts w' w.heap.size v (Words.lrW xs) → Below w.heap.size w w' → Q (.returned (.tuple #[v, .int .i64 (Words.lrI xs), .bool (Words.okW xs)])) w') :
    Calls Try.prog 36 #[va] w Q := by
  have H := Lib.hid hQ; clear hQ
  have ha' := ha
  obtain ⟨ao, ca, rfl, la, lca, cca⟩ := ha'.form
  clear ha'
  cases hok : Words.okW xs with
  | false =>
    have e1 : Hid (Words.lrI xs = 0) := Lib.hid (by simp [Words.lrI, hok])
    have e2 : Hid (Words.lrW xs = []) := Lib.hid (by simp [Words.lrW, hok])
    go_enter Try.func36, Try.ntmps36
    go_wp2_with (go_at_call 49; refine ColoringOk_i ha ?_; rw [hok])
    have h := H.out (.slice none 0 0) w (by rw [e2.out]; exact Own.nil _ _ _) (Below.refl _ _)
    rw [e1.out, hok] at h
    go_ret3
    exact h
  | true =>
    have e1 : Hid (Words.lrI xs = Words.lrTo xs xs.length) := Lib.hid (by simp [Words.lrI, hok])
    have e2 : Hid (Words.lrW xs = Words.rot xs (Words.lrTo xs xs.length)) := Lib.hid (by simp [Words.lrW, hok])
    go_enter Try.func36, Try.ntmps36
    go_wp2_with (go_at_call 49; refine ColoringOk_i ha ?_; rw [hok])
    have hok' := Lib.hid hok
    clear hok
    go_loopg [5, 12] xs.length (fun g b i wr => Below w.heap.size w wr ∧ ∃ j m : Nat, i = .int .i64 j ∧ b = .int .i64 m ∧ Hid (m = Words.lrTo xs j) ∧ Hid (m = 0 ∨ m < j) ∧ j + g ≤ xs.length ∧ xs.length ≤ j + g)
    case atStart => exact ⟨Below.refl _ _, 0, 0, rfl, rfl, Lib.hid rfl, Lib.hid (.inl rfl), by omega, by omega⟩
    case round =>
      obtain ⟨hb, j, m, rfl, rfl, hm, hmj, hk1, hk2⟩ := hrel
      by_cases hj : j < xs.length
      · have i1 : (j : Int) < xs.length := by omega
        have hml : m ≤ xs.length := by have := hmj.out; omega
        go_wp2_with fail
        refine rotated_i (ha.below hb) (by omega) hn ?_
        intro v1 w1 o1 b1
        go_wp2_with fail
        refine rotated_i (ha.below (hb.trans (b1.mono hb.size))) hml hn ?_
        intro v2 w2 o2 b2
        have hbb : Below w.heap.size w w2 := (hb.trans (b1.mono hb.size)).trans (b2.mono (hb.trans (b1.mono hb.size)).size)
        go_wp2_with fail
        refine Compare_c ((o1.below b2).at) o2.at ?_
        have es : Words.lrTo xs (j + 1) = if Words.less (Words.rot xs j) (Words.rot xs (Words.lrTo xs j)) then j else Words.lrTo xs j := rfl
        rw [← hm.out, Words.less_cmp (by rw [Words.rot_len _ (by omega), Words.rot_len _ hml])] at es
        have es' := Lib.hid es
        clear es
        by_cases hc : Words.cmpL (Words.rot xs j) (Words.rot xs m) < 0
        · have ec : Hid (Words.lrTo xs (j + 1) = j) := Lib.hid (by rw [es'.out, if_pos (by simpa using hc)])
          go_wp2
          go_roundg (gk - 1)
          case measure => omega
          case rel => exact ⟨hbb, j + 1, j, by go_num, rfl, Lib.hid ec.out.symm, Lib.hid (.inr (by omega)), by omega, by omega⟩
        · have ec : Hid (Words.lrTo xs (j + 1) = m) := Lib.hid (by rw [es'.out, if_neg (by simpa using hc)])
          go_wp2
          go_roundg (gk - 1)
          case measure => omega
          case rel => exact ⟨hbb, j + 1, m, by go_num, rfl, Lib.hid ec.out.symm, Lib.hid (by have := hmj.out; omega), by omega, by omega⟩
      · have em : Hid (m = Words.lrTo xs xs.length) := Lib.hid (by rw [hm.out, show j = xs.length from by omega])
        have hml : m ≤ xs.length := by have := hmj.out; omega
        go_wp2_with (go_at_call 78; refine rotated_i (ha.below hb) hml hn ?_; intro v1 w1 o1 b1)
        have h := H.out v1 w1 (by rw [e2.out, ← em.out]; exact OwnInts.mono o1 hb.size) (hb.trans (b1.mono hb.size))
        rw [e1.out, ← em.out, hok'.out] at h
        go_ret3
        exact h
end Go.Proofs.Ytdibmjijpdliaaa
/- Periods, necklaces, words of Lyndon, bracelets. -/
set_option linter.unusedVariables false
namespace Go.Proofs.Ytdibmjijpdliaaa
open Go.RowKit

set_option maxHeartbeats 400000 in
theorem MirrorWord_i {va : Value} {xs : List Int} {w : World} {Q : Ending → World → Prop} (ha : IntsAt w va xs) (hn : xs.length ≤ 1048576)
    (hQ : ∀ v w', OwnInts w' w.heap.size v (Words.mirW xs) → Below w.heap.size w w' → Q (.returned (.tuple #[v, .bool (Words.okW xs)])) w') :
    Calls Try.prog 42 #[va] w Q := by
  have H := Lib.hid hQ; clear hQ
  cases hok : Words.okW xs with
  | false =>
    have e1 : Hid (Words.mirW xs = []) := Lib.hid (by simp [Words.mirW, hok])
    go_enter Try.func42, Try.ntmps42
    go_wp2_with (go_at_call 49; refine ColoringOk_i ha ?_; rw [hok])
    have h := H.out (.slice none 0 0) w (by rw [e1.out]; exact Own.nil _ _ _) (Below.refl _ _)
    rw [hok] at h
    exact h
  | true =>
    have e1 : Hid (Words.mirW xs = xs.reverse) := Lib.hid (by simp [Words.mirW, hok])
    go_enter Try.func42, Try.ntmps42
    go_wp2_with (first | (go_at_call 49; refine ColoringOk_i ha ?_; rw [hok]) | (go_at_call 83; refine mirror_i ha hn ?_; intro v1 w1 o1 b1))
    have h := H.out v1 w1 (by rw [e1.out]; exact o1) b1
    rw [hok] at h
    exact h
set_option maxHeartbeats 400000 in
theorem IsNecklace_i {va : Value} {xs : List Int} {w : World} {Q : Ending → World → Prop} (ha : IntsAt w va xs) (hn : xs.length ≤ 1048576)
    (hQ : ∀ w', Below w.heap.size w w' → Q (.returned (.bool (Words.neckB xs))) w') :
    Calls Try.prog 33 #[va] w Q := by
  have H := Lib.hid hQ; clear hQ
  go_enter Try.func33, Try.ntmps33
  go_wp2_with fail
  refine LeastRotation_i ha hn ?_
  intro v1 w1 o1 b1
  cases hok : Words.okW xs with
  | false =>
    have e1 : Hid (Words.neckB xs = false) := Lib.hid (by simp [Words.neckB, hok])
    go_wp2
    exact boolq' (H.out _ b1) e1.out
  | true =>
    have e1 : Hid (Words.neckB xs = decide (Words.lrW xs = xs)) := Lib.hid (by simp [Words.neckB, hok])
    go_wp2_with fail
    refine Equal_c o1.at (ha.below b1) ?_
    intro w2 d2
    go_wp2
    refine boolq' (H.out _ (b1.trans (d2.below _))) ?_
    rw [e1.out]
set_option maxHeartbeats 800000 in
theorem LeastBracelet_i {va : Value} {xs : List Int} {w : World} {Q : Ending → World → Prop} (ha : IntsAt w va xs) (hn : xs.length ≤ 1048576)
    (hQ : ∀ v w', OwnInts w' w.heap.size v (Words.brW xs) → Below w.heap.size w w' → Q (.returned (.tuple #[v, .bool (Words.okW xs)])) w') :
    Calls Try.prog 43 #[va] w Q := by
  have H := Lib.hid hQ; clear hQ
  go_enter Try.func43, Try.ntmps43
  go_wp2_with fail
  refine LeastRotation_i ha hn ?_
  intro v1 w1 o1 b1
  cases hok : Words.okW xs with
  | false =>
    have e1 : Hid (Words.brW xs = []) := Lib.hid (by simp [Words.brW, hok])
    go_wp2
    have h := H.out (.slice none 0 0) w1 (by rw [e1.out]; exact Own.nil _ _ _) b1
    rw [hok] at h
    exact h
  | true =>
    have hlc : Hid (Words.less (Words.lrW xs.reverse) (Words.lrW xs) = decide (Words.cmpL (Words.lrW xs.reverse) (Words.lrW xs) < 0)) := Lib.hid (Words.less_cmp (by rw [Words.lrW_len (by rw [Words.okW_reverse]; exact hok), Words.lrW_len hok, List.length_reverse]))
    go_wp2_with fail
    refine mirror_i (ha.below b1) hn ?_
    intro v2 w2 o2 b2
    go_wp2_with fail
    refine LeastRotation_i o2.at (by rw [List.length_reverse]; exact hn) ?_
    intro v3 w3 o3 b3
    have hbb : Below w.heap.size w w3 := below_trans (below_trans b1 b2) b3
    go_wp2_with fail
    refine Compare_c o3.at (OwnInts.at (OwnInts.below (OwnInts.below o1 b2) b3)) ?_
    by_cases hc : Words.cmpL (Words.lrW xs.reverse) (Words.lrW xs) < 0
    · have e1 : Hid (Words.brW xs = Words.lrW xs.reverse) := Lib.hid (by unfold Words.brW; rw [if_pos hok, hlc.out, if_pos (by simpa using hc)])
      go_wp2
      have h := H.out v3 w3 (by rw [e1.out]; exact OwnInts.mono o3 (Nat.le_trans b1.size b2.size)) hbb
      rw [hok] at h
      exact h
    · have e1 : Hid (Words.brW xs = Words.lrW xs) := Lib.hid (by unfold Words.brW; rw [if_pos hok, hlc.out, if_neg (by simpa using hc)])
      go_wp2
      have h := H.out v1 w3 (by rw [e1.out]; exact OwnInts.below (OwnInts.below o1 b2) b3) hbb
      rw [hok] at h
      exact h
set_option maxHeartbeats 400000 in
theorem IsBracelet_i {va : Value} {xs : List Int} {w : World} {Q : Ending → World → Prop} (ha : IntsAt w va xs) (hn : xs.length ≤ 1048576)
    (hQ : ∀ w', Below w.heap.size w w' → Q (.returned (.bool (Words.brB xs))) w') :
    Calls Try.prog 40 #[va] w Q := by
  have H := Lib.hid hQ; clear hQ
  go_enter Try.func40, Try.ntmps40
  go_wp2_with fail
  refine LeastBracelet_i ha hn ?_
  intro v1 w1 o1 b1
  cases hok : Words.okW xs with
  | false =>
    have e1 : Hid (Words.brB xs = false) := Lib.hid (by simp [Words.brB, hok])
    go_wp2
    exact boolq' (H.out _ b1) e1.out
  | true =>
    have e1 : Hid (Words.brB xs = decide (Words.brW xs = xs)) := Lib.hid (by simp [Words.brB, hok])
    go_wp2_with fail
    refine Equal_c o1.at (ha.below b1) ?_
    intro w2 d2
    go_wp2
    refine boolq' (H.out _ (b1.trans (d2.below _))) ?_
    rw [e1.out]
set_option maxHeartbeats 800000 in
theorem IsMirrored_i {va : Value} {xs : List Int} {w : World} {Q : Ending → World → Prop} (ha : IntsAt w va xs) (hn : xs.length ≤ 1048576)
    (hQ : ∀ w', Below w.heap.size w w' → Q (.returned (.bool (Words.mirB xs))) w') :
    Calls Try.prog 41 #[va] w Q := by
  have H := Lib.hid hQ; clear hQ
  go_enter Try.func41, Try.ntmps41
  go_wp2_with fail
  refine LeastRotation_i ha hn ?_
  intro v1 w1 o1 b1
  cases hok : Words.okW xs with
  | false =>
    have e1 : Hid (Words.mirB xs = false) := Lib.hid (by simp [Words.mirB, hok])
    go_wp2
    exact boolq' (H.out _ b1) e1.out
  | true =>
    have e1 : Hid (Words.mirB xs = decide (Words.lrW xs = Words.lrW xs.reverse)) := Lib.hid (by simp [Words.mirB, hok])
    go_wp2_with fail
    refine mirror_i (ha.below b1) hn ?_
    intro v2 w2 o2 b2
    go_wp2_with fail
    refine LeastRotation_i o2.at (by rw [List.length_reverse]; exact hn) ?_
    intro v3 w3 o3 b3
    go_wp2_with fail
    refine Equal_c (OwnInts.at (OwnInts.below (OwnInts.below o1 b2) b3)) o3.at ?_
    intro w4 d4
    go_wp2
    refine boolq' (H.out _ ((below_trans (below_trans b1 b2) b3).trans (d4.below _))) ?_
    rw [e1.out]
end Go.Proofs.Ytdibmjijpdliaaa
/- The memory of 'necklaces', and what its closure does. -/
set_option linter.unusedVariables false
namespace Go.Proofs.Ytdibmjijpdliaaa
open Go.RowKit

/-- What 'necklaces' has in memory while it grows words: the word, the box with the list so far. -/
structure GrowAll (w : World) (B R b g n : Nat) (cur : List Int) (acc : List (List Int)) : Prop where
  word : OwnInts w B (.slice (some ⟨g, 0, none⟩) n n) cur
  gR : g < R
  bR : b < R
  Bb : B ≤ b
  BR : B ≤ R
  size : R ≤ w.heap.size
  box : ∃ vo us, BoxAt w b 23 vo ∧ Own w B 25 vo us ∧ Rows w R w.heap.size us acc
theorem GrowAll.set {w : World} {B R b g n : Nat} {cur : List Int} {acc : List (List Int)} (h : GrowAll w B R b g n cur acc) (i : Nat) (x : Int) : GrowAll (w.setCell ⟨g, i, none⟩ (.int .i64 x)) B R b g n (cur.set i x) acc := by
  obtain ⟨vo, us, h1, h2, h3⟩ := h.box
  have hg := grown_set w g i (.int .i64 x)
  refine ⟨OwnInts.set h.word i x, h.gR, h.bR, h.Bb, h.BR, Nat.le_trans h.size hg.size, vo, us, h1.grown hg ?_, Own.grown h2 hg (own_types h.word h2 (by decide)), ?_⟩
  · have := h1.apart h.word (by decide)
    exact this
  · exact (h3.grown hg (fun k hk => by cases hk; exact .inl h.gR)).mono (Nat.le_refl _) hg.size
theorem GrowAll.drawn {w w' : World} {B R b g n : Nat} {cur : List Int} {acc : List (List Int)} (h : GrowAll w B R b g n cur acc) (hd : Drawn w w') : GrowAll w' B R b g n cur acc := by
  obtain ⟨vo, us, h1, h2, h3⟩ := h.box
  exact ⟨OwnInts.drawn h.word hd, h.gR, h.bR, h.Bb, h.BR, Nat.le_trans h.size (hd.below 0).size, vo, us, h1.drawn hd, h2.drawn hd, (h3.drawn hd).mono (Nat.le_refl _) (hd.below 0).size⟩
theorem step_app_val {w : World} {ops : Array Oper} {o : Oper} {a : Act} {K : Act → World → Prop} {Q : Exit → Act → World → Prop} {E : Prop} (hg : o.guard = none) (s x : Operand) (hop : o.op = .call { callee := .builtin .append, args := #[s, x], argTypes := #[23, 23] })
    {B : Nat} {v u : Value} {us ys : List Value} (hs : a.eval s = v) (hown : Own w B 25 v us) (hx : a.eval x = u) (hrow : RowAt w u ys) (h1 : ∀ y ∈ ys, y.oneCell' = true)
    (hn : us.length + ys.length ≤ 1099511627776) (hB : B ≤ w.heap.size)
    (hK : ∀ v' w', Own w' B 25 v' (us ++ ys) → w.grownBy w' v.ownBlock → K (a.put o.dst v') w') :
    if Region.wanted o (yielded ops a.tmps) = true then Oper.wp Try.prog o a w K Q else E :=
  step_app_row hg 23 25 (.slice none 0 0) 24 Try.infoInts Try.underlying23 rfl s x hop hs hown hx hrow h1 (by omega) (by unfold maxLen; omega) hB hK
theorem GrowAll.push {w w2 w4 : World} {B R b g n : Nat} {cur : List Int} {acc : List (List Int)} {us : List Value} {vo u2 v4 v : Value} {X : Obj} (h : GrowAll w B R b g n cur acc) (hrows : Rows w R w.heap.size us acc)
    (bw2 : Below w.heap.size w w2) (o2 : OwnInts w2 w.heap.size u2 cur) (ho3 : Own (w2.alloc X) B 25 vo us) (o4 : Own w4 B 25 v4 (us ++ [u2])) (g4 : (w2.alloc X).grownBy w4 vo.ownBlock) (hbox4 : BoxAt w4 b 23 v) :
    GrowAll (w4.setCell ⟨b, 0, none⟩ v4) B R b g n cur (acc ++ [cur]) ∧ Below B w (w4.setCell ⟨b, 0, none⟩ v4) := by
  have bw3 : Below w.heap.size w (w2.alloc X) := bw2.alloc bw2.size X
  have hB : B ≤ w.heap.size := Nat.le_trans h.BR h.size
  have hs3 := bw3.size
  have hs4 := g4.size
  have hw3 := Own.below h.word bw3
  have hw4 := Own.grown hw3 g4 (own_types ho3 hw3 (by decide))
  have hr4 := (hrows.below bw3).outer ho3 g4
  have hu3 := Own.below o2 (below_alloc w2 X)
  have hu4 := Own.grown hu3 g4 (own_types ho3 hu3 (by decide))
  have hp := hr4.push (u := u2) (xs := cur) (Own.mono hu4 h.size) (fun k hk => (Own.lt o2 hk).1)
  have gs := grown_set w4 b 0 v4
  refine ⟨⟨Own.setOther hw4 v4 (hbox4.apart hw4 (by decide)), h.gR, h.bR, h.Bb, h.BR, Nat.le_trans h.size (Nat.le_trans hs3 (Nat.le_trans hs4 gs.size)), v4, us ++ [u2], hbox4.set v4, Own.setOther o4 v4 (hbox4.apart o4 (by decide)), (hp.grown gs (fun k hk => by cases hk; exact .inl h.bR)).mono (Nat.le_refl _) gs.size⟩, ?_⟩
  exact ((bw3.mono hB).grown g4 (Nat.le_trans hB hs3) (fun k hk => (Own.lt ho3 hk).1)).setCell h.Bb _
set_option maxHeartbeats 800000 in
theorem see_all {B R b g n : Nat} {cur : List Int} {acc : List (List Int)} {w : World} {Q : Ending → World → Prop} (hw : GrowAll w B R b g n cur acc) (hn : n ≤ 10) (hc : cur.length = n) (hacc : acc.length ≤ 2000000)
    (hQ : ∀ w', GrowAll w' B R b g n cur (acc ++ [cur]) → Below B w w' → Q (.returned (.bool true)) w') :
    Calls Try.prog 101 #[.slice (some ⟨g, 0, none⟩) n n, .pointer (some ⟨b, 0, none⟩)] w Q := by
  have H := Lib.hid hQ; clear hQ
  have hw' := Lib.hid hw
  obtain ⟨hword, hgR, hbR, hBb, hBR, hsz, vo, us, hbox, hout, hrows⟩ := hw
  have hrows' := Lib.hid hrows
  obtain ⟨ao, co, rfl, lo, lco, cco⟩ := Own.form hout
  have hul := hrows.1
  rw [hul] at hout hbox
  have hcell := hbox.cell
  have hfro := hbox.frozen
  have hul' := Lib.hid hul
  clear hul
  have hcw : IntsAt w.drew (.slice (some ⟨g, 0, none⟩) n n) cur := OwnInts.at (OwnInts.drawn hword (Drawn.one w 1))
  have hB : B ≤ w.heap.size := Nat.le_trans hBR hsz
  go_enter Try.func101, Try.ntmps101
  go_wp2_with fail
  go_region_law (first
    | (go_simp; go_at_call 68; refine Clone_c hcw (by omega) ?_; intro v2 w2 o2 b2; obtain ⟨ao2, ca2, rfl, _, _, _⟩ := Own.form o2; have bw2 : Below w.heap.size w w2 := ((Drawn.one w 1).below _).trans b2; have hcell2 := (hbox.below bw2).cell; have bw3 := bw2.alloc bw2.size (.cells #[.slice ao2 (ints cur).length ca2] 25); have ho3 := Own.below hout bw3; have hcell3 := (hbox.below bw3).cell)
    | (refine step_app_val rfl (.tmp 4) (.tmp 7) rfl rfl ho3 rfl (row_one w2 _ _) (by simp [Value.oneCell']) (by simp; have := hul'.out; omega) (Nat.le_trans hB bw3.size) ?_; intro v4 w4 o4 g4; obtain ⟨ao4, ca4, rfl, _, _, _⟩ := Own.form o4; have hb4 := (hbox.below bw3).grown g4 (BoxAt.apart (hbox.below bw3) ho3 (by decide)); have hcell4 := hb4.cell; have hfro4 := hb4.frozen))
  all_goals
    rw [List.length_append, List.length_singleton] at o4
    obtain ⟨h1, h2⟩ := hw'.out.push hrows'.out bw2 o2 ho3 o4 g4 hb4
    have h3 := Lib.hid (H.out _ h1 h2)
    clear h1 h2
    go_wp2_with fail
    exact h3.out
end Go.Proofs.Ytdibmjijpdliaaa
/- 'grow', when it sees all necklaces. -/
set_option linter.unusedVariables false
namespace Go.Proofs.Ytdibmjijpdliaaa
open Go.RowKit

theorem Words.vis_len (k : Nat) (hk : k ≤ 4) (b : List Int) (r : Nat) (pre : List Int) (over : Bool) : (Words.vis k b r pre over).length ≤ 4 ^ r := by
  unfold Words.vis
  have h := List.length_filter_le (fun w => Words.neckP w && (over || decide (Words.cmpL b w < 0))) ((Perms.wordsN k r).map fun w => pre ++ w)
  rw [List.length_map, Perms.wordsN_len] at h
  exact Nat.le_trans h (Nat.pow_le_pow_left hk r)
theorem Words.visTo_len (k : Nat) (hk : k ≤ 4) (b : List Int) (r : Nat) (pre : List Int) (over : Bool) : ∀ x, (Words.visTo k b r pre over x).length ≤ x * 4 ^ r
  | 0 => by simp [Words.visTo]
  | x + 1 => by
    have h1 := Words.visTo_len k hk b r pre over x
    have h2 := Words.vis_len k hk b r (pre ++ [(x : Int)]) over
    rw [Words.visTo_step, List.length_append, Nat.succ_mul]
    omega
theorem Words.leastL_in {k : Int} {pre : List Int} {p : Nat} (hk : 1 ≤ k) (h : Words.St pre p) (hp : ∀ x ∈ pre, 0 ≤ x ∧ x < k) : 0 ≤ Words.leastL pre p ∧ Words.leastL pre p < k := by
  unfold Words.leastL
  split
  · omega
  · rename_i h0
    have hl := h.le h0
    have h1 := h.pos
    exact hp _ (List.mem_of_getElem? (Words.at_some (by omega)))
def GrowAllAt (r : Nat) : Prop := ∀ (B R b g n p : Nat) (k : Int) (a pi : Int) (pre cur : List Int) (acc : List (List Int)) (w : World) (Q : Ending → World → Prop) (ha : a = pre.length) (hpi : pi = p) (hk1 : 1 ≤ k) (hk4 : k ≤ 4) (hn : n ≤ 10) (hn1 : 1 ≤ n) (hp : pre.length + r = n) (hc : cur.length = n) (ht : cur.take pre.length = pre)
    (hst : Words.St pre p) (hpr : ∀ x ∈ pre, 0 ≤ x ∧ x < k) (hw : GrowAll w B R b g n cur acc) (hal : acc.length + 4 ^ r ≤ 2000000)
    (hQ : ∀ w' cur', cur'.length = n → cur'.take pre.length = pre → GrowAll w' B R b g n cur' (acc ++ Words.vis k.toNat [] r pre true) → Below B w w' → Q (.returned (.bool true)) w'),
    Calls Try.prog 76 #[.slice (some ⟨g, 0, none⟩) n n, .int .i64 a, .int .i64 pi, .int .i64 k, .slice none 0 0, .bool true, .func (.func 101) #[] #[.pointer (some ⟨b, 0, none⟩)]] w Q
set_option maxHeartbeats 3200000 in
theorem grow_all : ∀ (r : Nat), GrowAllAt r := by
  intro r
  induction r with
  | zero =>
    intro B R b g n p k a pi pre cur acc w Q ha hpi hk1 hk4 hn hn1 hp hc ht hst hpr hw hal hQ
    have H := Lib.hid hQ; clear hQ
    subst ha hpi
    have hcp : cur = pre := by rw [← ht, List.take_of_length_le (by omega)]
    subst hcp
    have hpn : cur ≠ [] := by intro e; rw [e] at hc; simp at hc; omega
    have hnk := Lib.hid (hst.neck hpn)
    have hp1 := hst.pos
    have hpl := hst.le hpn
    have hv := Lib.hid (Words.vis_zero k.toNat [] cur true)
    have hw' := Lib.hid hw
    have hpr' := Lib.hid hpr
    have hst' := Lib.hid hst
    clear hw hpr hst ht
    have hp5 : ¬ (p = 0) := by omega
    obtain ⟨m, hm⟩ : ∃ m, m = cur.length % p := ⟨_, rfl⟩
    have hmI : (n : Int) % p = m := by rw [hm, hc, Int.natCast_emod]
    have hm' := Lib.hid hm
    clear hm
    by_cases h0 : m = 0
    · have hv2 : Hid (Words.vis k.toNat [] 0 cur true = [cur]) := Lib.hid (by
        rw [hv.out, hnk.out, ← hm'.out, decide_eq_true h0]; simp)
      subst h0
      go_enter Try.func76, Try.ntmps76
      go_wp2_with fail
      refine see_all hw'.out hn hc (by simp at hal; omega) ?_
      intro w2 hw2 b2
      have h3 := Lib.hid (H.out w2 cur hc (by rw [List.take_length]) (by rw [hv2.out]; exact hw2) b2)
      clear hw2
      go_wp2_with fail
      exact h3.out
    · have hv2 : Hid (Words.vis k.toNat [] 0 cur true = []) := Lib.hid (by
        rw [hv.out, hnk.out, ← hm'.out, decide_eq_false h0]; simp)
      have h3 := Lib.hid (H.out w cur hc (by rw [List.take_length]) (by rw [hv2.out, List.append_nil]; exact hw'.out) (Below.refl _ _))
      go_enter Try.func76, Try.ntmps76
      go_wp2_with fail
      exact h3.out
  | succ r ih =>
    intro B R b g n p k a pi pre cur acc w Q ha hpi hk1 hk4 hn hn1 hp hc ht hst hpr hw hal hQ
    have H := Lib.hid hQ; clear hQ
    subst ha hpi
    obtain ⟨hl0, hl1⟩ := Words.leastL_in hk1 hst hpr
    have hpn : pre.length < n := by omega
    have hal' := Lib.hid hal
    have hst' := Lib.hid hst
    have hpr' := Lib.hid hpr
    have hp1 := hst.pos
    have hn0 : ((pre.length : Int) == n) = false := by simp; omega
    obtain ⟨l, hl⟩ : ∃ l : Nat, (l : Int) = Words.leastL pre p := ⟨(Words.leastL pre p).toNat, by omega⟩
    have hle := hst.le
    have hcell0 : pre ≠ [] → cur[pre.length - p]? = some (l : Int) := fun h0 => by
      have h1 := hle h0
      have h2 : (cur.take pre.length)[pre.length - p]? = some (Words.at_ pre (pre.length - p)) := by rw [ht]; exact Words.at_some (by omega)
      rw [List.getElem?_take, if_pos (by omega)] at h2
      rw [h2, hl]
      unfold Words.leastL
      rw [if_neg h0]
    rw [← hl] at hl0 hl1
    have hlk := Lib.hid hl
    clear hl hal hst hpr
    have hw' := Lib.hid hw
    obtain ⟨j, hj0⟩ : ∃ j, j = pre.length := ⟨_, rfl⟩
    have hj := Lib.hid hj0
    rw [← hj0] at hn0 hpn hcell0 hp ht hle
    rw [← hj0]
    clear hj0
    have ht' := Lib.hid ht
    clear ht hw
    by_cases h0 : j = 0
    · have hpe : Hid (pre = []) := Lib.hid (by have := hj.out; rw [h0] at this; exact List.length_eq_zero_iff.1 this.symm)
      have hl2 : l = 0 := by
        have := hlk.out
        unfold Words.leastL at this
        rw [if_pos hpe.out] at this
        omega
      clear hcell0 hle
      have hj1 : ((j : Int) == 0) = true := by rw [h0]; rfl
      have hj2 : ¬ (0 < (j : Int)) := by omega
      have hj3 : ¬ (0 < j) := by omega
      subst hl2
      clear h0
      go_enter Try.func76, Try.ntmps76
      go_wp2_with fail
      go_loopg [17] k.toNat (fun gg i wr => ∃ (x : Nat) (cur' : List Int), i = .int .i64 x ∧ Hid (0 ≤ x) ∧ (x : Int) ≤ k ∧ cur'.length = n ∧ Hid (cur'.take j = pre) ∧ GrowAll wr B R b g n cur' (acc ++ Words.visTo k.toNat [] r pre true x) ∧ Below B w wr ∧ k ≤ x + gg)
      case atStart => exact ⟨0, cur, by first | rfl | go_num, Lib.hid (Nat.le_refl _), by omega, hc, ht'.out, by rw [Words.visTo_low hst'.out (by rw [← hlk.out]; exact Int.le_refl _), List.append_nil]; exact hw'.out, Below.refl _ _, by omega⟩
      case round =>
        obtain ⟨x, cur', rfl, hlx, hxk, hcl, hct, hgw, hbw, hm⟩ := hrel
        by_cases hx : (x : Int) < k
        · have hfr := Own.frozen hgw.word j
          obtain ⟨x0, _, hc0⟩ := OwnInts.cell hgw.word (k := j) (by omega)
          have hBg : B ≤ g := (Own.lt hgw.word rfl).1
          have i1 : (j : Int) < n := by omega
          have htk : Hid ((cur'.set j (x : Int)).take (pre ++ [(x : Int)]).length = pre ++ [(x : Int)]) := Lib.hid (by
            rw [List.length_append, List.length_singleton, ← hj.out, List.take_add_one, List.getElem?_set_self (by omega), List.take_set_of_le (Nat.le_refl _), hct.out]
            rfl)
          have hsn := Lib.hid (hst'.out.next (x := (x : Int)) (by rw [← hlk.out]; have := hlx.out; omega))
          have hpx : Hid (∀ z ∈ pre ++ [(x : Int)], 0 ≤ z ∧ z < k) := Lib.hid (by
            intro z hz
            rcases List.mem_append.1 hz with h | h
            · exact hpr'.out z h
            · simp at h; omega)
          have hac : Hid ((acc ++ Words.visTo k.toNat [] r pre true x).length + 4 ^ r ≤ 2000000) := Lib.hid (by
            have h1 := Words.visTo_len k.toNat (by omega) [] r pre true x
            have h2 : x * 4 ^ r ≤ 3 * 4 ^ r := Nat.mul_le_mul_right _ (by omega)
            have h3 := hal'.out
            rw [Nat.pow_succ] at h3
            rw [List.length_append]
            omega)
          have hnp : Hid (Words.nextP pre p x = 1) := Lib.hid (by unfold Words.nextP; rw [if_pos hpe.out])
          go_wp2_with fail
          refine ih B R b g n (Words.nextP pre p x) k _ _ (pre ++ [(x : Int)]) (cur'.set j x) (acc ++ Words.visTo k.toNat [] r pre true x) _ _ (by rw [List.length_append, List.length_singleton, ← hj.out] <;> go_num) (by rw [hnp.out] <;> go_num) hk1 hk4 hn hn1 (by rw [List.length_append, List.length_singleton, ← hj.out]; omega) (by rw [List.length_set]; exact hcl) htk.out hsn.out hpx.out (hgw.set j x) hac.out ?_
          intro w2 cur2 hc2 ht2 hw2 b2
          rw [List.append_assoc, ← Words.visTo_step] at hw2
          have hw2' := Lib.hid hw2
          have ht2' : Hid (cur2.take j = pre) := Lib.hid (by
            rw [List.length_append, List.length_singleton, ← hj.out] at ht2
            have h := congrArg (fun z => z.take j) ht2
            simp only [List.take_take, Nat.min_eq_left (Nat.le_succ j)] at h
            rw [h, hj.out, List.take_left])
          have hbs := hbw.size
          clear hw2 ht2
          go_wp2_with fail
          go_roundg (gk - 1)
          case measure => omega
          case rel => exact ⟨x + 1, cur2, by go_num, Lib.hid (Nat.le_succ_of_le hlx.out), by omega, hc2, ht2', hw2'.out, (hbw.setCell hBg _).trans b2, by omega⟩
        · have hv : Hid (acc ++ Words.visTo k.toNat [] r pre true x = acc ++ Words.vis k.toNat [] (r + 1) pre true) := Lib.hid (by rw [show x = k.toNat from by omega, Words.visTo_all])
          have h3 := Lib.hid (H.out wr cur' hcl (by rw [← hj.out]; exact hct.out) (by rw [← hv.out]; exact hgw) hbw)
          go_wp2_with fail
          exact h3.out
    · have hpe : Hid (pre ≠ []) := Lib.hid (by intro e; have := hj.out; rw [e] at this; simp at this; omega)
      have hcl0 := hcell0 hpe.out
      have hle2 := hle hpe.out
      clear hcell0 hle
      have hj1 : ((j : Int) == 0) = false := by simp; omega
      have hj2 : 0 < (j : Int) := by omega
      have hj3 : 0 < j := by omega
      have hjp : ((j : Int) - p).toNat = j - p := by omega
      have hjp0 : 0 ≤ (j : Int) - p := by omega
      have hjpn : (j : Int) - p < n := by omega
      have hcc := Own.cell hw'.out.word (k := j - p) (by rw [ints_get, hcl0]; rfl)
      clear hcl0 h0
      go_enter Try.func76, Try.ntmps76
      go_wp2_with fail
      go_loopg [17] k.toNat (fun gg i wr => ∃ (x : Nat) (cur' : List Int), i = .int .i64 x ∧ Hid (l ≤ x) ∧ (x : Int) ≤ k ∧ cur'.length = n ∧ Hid (cur'.take j = pre) ∧ GrowAll wr B R b g n cur' (acc ++ Words.visTo k.toNat [] r pre true x) ∧ Below B w wr ∧ k ≤ x + gg)
      case atStart => exact ⟨l, cur, by first | rfl | go_num, Lib.hid (Nat.le_refl _), by omega, hc, ht'.out, by rw [Words.visTo_low hst'.out (by rw [← hlk.out]; exact Int.le_refl _), List.append_nil]; exact hw'.out, Below.refl _ _, by omega⟩
      case round =>
        obtain ⟨x, cur', rfl, hlx, hxk, hcl, hct, hgw, hbw, hm⟩ := hrel
        by_cases hx : (x : Int) < k
        · have hfr := Own.frozen hgw.word j
          obtain ⟨x0, _, hc0⟩ := OwnInts.cell hgw.word (k := j) (by omega)
          have hBg : B ≤ g := (Own.lt hgw.word rfl).1
          have i1 : (j : Int) < n := by omega
          have htk : Hid ((cur'.set j (x : Int)).take (pre ++ [(x : Int)]).length = pre ++ [(x : Int)]) := Lib.hid (by
            rw [List.length_append, List.length_singleton, ← hj.out, List.take_add_one, List.getElem?_set_self (by omega), List.take_set_of_le (Nat.le_refl _), hct.out]
            rfl)
          have hsn := Lib.hid (hst'.out.next (x := (x : Int)) (by rw [← hlk.out]; have := hlx.out; omega))
          have hpx : Hid (∀ z ∈ pre ++ [(x : Int)], 0 ≤ z ∧ z < k) := Lib.hid (by
            intro z hz
            rcases List.mem_append.1 hz with h | h
            · exact hpr'.out z h
            · simp at h; omega)
          have hac : Hid ((acc ++ Words.visTo k.toNat [] r pre true x).length + 4 ^ r ≤ 2000000) := Lib.hid (by
            have h1 := Words.visTo_len k.toNat (by omega) [] r pre true x
            have h2 : x * 4 ^ r ≤ 3 * 4 ^ r := Nat.mul_le_mul_right _ (by omega)
            have h3 := hal'.out
            rw [Nat.pow_succ] at h3
            rw [List.length_append]
            omega)
          by_cases hxl : x = l
          · have hnp : Hid (Words.nextP pre p x = p) := Lib.hid (by unfold Words.nextP; rw [if_neg hpe.out, if_pos (by rw [← hlk.out, hxl])])
            have hxl2 : ((x : Int) != l) = false := by rw [hxl]; simp
            clear hxl
            go_wp2_with fail
            refine ih B R b g n (Words.nextP pre p x) k _ _ (pre ++ [(x : Int)]) (cur'.set j x) (acc ++ Words.visTo k.toNat [] r pre true x) _ _ (by rw [List.length_append, List.length_singleton, ← hj.out] <;> go_num) (by rw [hnp.out] <;> go_num) hk1 hk4 hn hn1 (by rw [List.length_append, List.length_singleton, ← hj.out]; omega) (by rw [List.length_set]; exact hcl) htk.out hsn.out hpx.out (hgw.set j x) hac.out ?_
            intro w2 cur2 hc2 ht2 hw2 b2
            rw [List.append_assoc, ← Words.visTo_step] at hw2
            have hw2' := Lib.hid hw2
            have ht2' : Hid (cur2.take j = pre) := Lib.hid (by
              rw [List.length_append, List.length_singleton, ← hj.out] at ht2
              have h := congrArg (fun z => z.take j) ht2
              simp only [List.take_take, Nat.min_eq_left (Nat.le_succ j)] at h
              rw [h, hj.out, List.take_left])
            have hbs := hbw.size
            clear hw2 ht2
            go_wp2_with fail
            go_roundg (gk - 1)
            case measure => omega
            case rel => exact ⟨x + 1, cur2, by go_num, Lib.hid (Nat.le_succ_of_le hlx.out), by omega, hc2, ht2', hw2'.out, (hbw.setCell hBg _).trans b2, by omega⟩
          · have hnp : Hid (Words.nextP pre p x = j + 1) := Lib.hid (by unfold Words.nextP; rw [if_neg hpe.out, if_neg (by rw [← hlk.out]; omega), hj.out])
            have hxl2 : ((x : Int) != l) = true := by simp; omega
            clear hxl
            go_wp2_with fail
            refine ih B R b g n (Words.nextP pre p x) k _ _ (pre ++ [(x : Int)]) (cur'.set j x) (acc ++ Words.visTo k.toNat [] r pre true x) _ _ (by rw [List.length_append, List.length_singleton, ← hj.out] <;> go_num) (by rw [hnp.out] <;> go_num) hk1 hk4 hn hn1 (by rw [List.length_append, List.length_singleton, ← hj.out]; omega) (by rw [List.length_set]; exact hcl) htk.out hsn.out hpx.out (hgw.set j x) hac.out ?_
            intro w2 cur2 hc2 ht2 hw2 b2
            rw [List.append_assoc, ← Words.visTo_step] at hw2
            have hw2' := Lib.hid hw2
            have ht2' : Hid (cur2.take j = pre) := Lib.hid (by
              rw [List.length_append, List.length_singleton, ← hj.out] at ht2
              have h := congrArg (fun z => z.take j) ht2
              simp only [List.take_take, Nat.min_eq_left (Nat.le_succ j)] at h
              rw [h, hj.out, List.take_left])
            have hbs := hbw.size
            clear hw2 ht2
            go_wp2_with fail
            go_roundg (gk - 1)
            case measure => omega
            case rel => exact ⟨x + 1, cur2, by go_num, Lib.hid (Nat.le_succ_of_le hlx.out), by omega, hc2, ht2', hw2'.out, (hbw.setCell hBg _).trans b2, by omega⟩
        · have hv : Hid (acc ++ Words.visTo k.toNat [] r pre true x = acc ++ Words.vis k.toNat [] (r + 1) pre true) := Lib.hid (by rw [show x = k.toNat from by omega, Words.visTo_all])
          have h3 := Lib.hid (H.out wr cur' hcl (by rw [← hj.out]; exact hct.out) (by rw [← hv.out]; exact hgw) hbw)
          go_wp2_with fail
          exact h3.out
end Go.Proofs.Ytdibmjijpdliaaa
/- All necklaces, as the program lists them. -/
set_option linter.unusedVariables false
namespace Go.Proofs.Ytdibmjijpdliaaa
open Go.RowKit

/-- All necklaces of n letters of k colors, in order. -/
def Words.necks (k : Int) (n : Nat) : List (List Int) := (Perms.wordsN k.toNat n).filter Words.neckP
set_option maxHeartbeats 1600000 in
theorem necklaces_i {n : Nat} {k : Int} {w : World} {Q : Ending → World → Prop} (hk1 : 1 ≤ k) (hk4 : k ≤ 4) (hn1 : 1 ≤ n) (hn : n ≤ 10)
    (hQ : ∀ v w', OwnRows w' w.heap.size w'.heap.size v (Words.necks k n) → Below w.heap.size w w' → Q (.returned v) w') :
    Calls Try.prog 75 #[.int .i64 n, .int .i64 k] w Q := by
  have H := Lib.hid hQ; clear hQ
  go_enter Try.func75, Try.ntmps75
  go_wp2_with (at_make; refine mk_ints rfl (.tmp 7) (.tmp 7) rfl rfl rfl n rfl (by omega) ?_; intro w1 ho1 hb1 hs1)
  have hq2 : ((w.alloc (.cells #[] 25)).alloc (.cells #[.slice (some ⟨w.heap.size, 0, none⟩) 0 0] 23)).heap.size = w.heap.size + 2 := by rw [World.size_alloc, World.size_alloc]
  have hq1 : (w.alloc (.cells #[] 25)).heap.size = w.heap.size + 1 := by rw [World.size_alloc]
  have hbx : BoxAt ((w.alloc (.cells #[] 25)).alloc (.cells #[.slice (some ⟨w.heap.size, 0, none⟩) 0 0] 23)) (w.heap.size + 1) 23 (.slice (some ⟨w.heap.size, 0, none⟩) 0 0) := by
    rw [← hq1]; exact heap_alloc_new _ _
  have hb0 : Below w.heap.size w w1 := ((below_alloc w _).alloc (by simp) _).trans (hb1.mono (by rw [hq2]; omega))
  have hbx1 := hbx.below hb1
  have hou := Own.below (Own.below (own_outer_empty w) (below_alloc _ (.cells #[.slice (some ⟨w.heap.size, 0, none⟩) 0 0] 23))) hb1
  rw [hq2] at ho1 hs1
  have hG : GrowAll w1 w.heap.size w1.heap.size (w.heap.size + 1) (w.heap.size + 2) n (List.replicate n 0) [] :=
    ⟨OwnInts.mono ho1 (by omega), by omega, by omega, by omega, by omega, Nat.le_refl _, _, _, hbx1, hou, Rows.nil _ _ _⟩
  have hG' := Lib.hid hG
  have h4 : 4 ^ n ≤ 4 ^ 10 := Nat.pow_le_pow_right (by omega) hn
  have h4' := Lib.hid h4
  clear hG hbx hbx1 hou hq1 hq2 ho1 hs1 hb1 h4
  go_wp2_with fail
  refine grow_all n w.heap.size w1.heap.size (w.heap.size + 1) (w.heap.size + 2) n 1 k _ _ [] (List.replicate n 0) [] _ _ rfl rfl hk1 hk4 hn hn1 (by simp) (by simp) (by simp) (.inl ⟨rfl, rfl⟩) (by simp) hG'.out (by have := h4'.out; simp; omega) ?_
  intro w2 cur2 _ _ hw2 b2
  obtain ⟨vo, us, hbox, hout, hrows⟩ := hw2.box
  have hsz := hw2.size
  have hBR := hw2.BR
  have hcell := hbox.cell
  obtain ⟨ao, co, rfl, _, _, _⟩ := Own.form hout
  have hv : Hid (OwnRows w2 w.heap.size w2.heap.size (.slice ao us.length co) (Words.necks k n)) := Lib.hid (by
    have h := (hrows.mono hBR (Nat.le_refl _)).whole hout hout.inBlk
    rw [List.nil_append, Words.vis_necks] at h
    exact h)
  have hb2 := hb0.trans b2
  have h3 := Lib.hid (H.out _ w2 hv.out hb2)
  clear hw2 hrows hout hbox
  go_wp2_with fail
  exact h3.out
end Go.Proofs.Ytdibmjijpdliaaa
/- 'grow', when it seeks the next necklace. -/
set_option linter.unusedVariables false
namespace Go.Proofs.Ytdibmjijpdliaaa
open Go.RowKit

/-- What 'NextNecklace' has in memory while it grows words: the word, the box that is still nil, the bound. -/
structure GrowNext (w0 w : World) (vb : Value) (bnd : List Int) (b g n : Nat) (cur : List Int) : Prop where
  word : OwnInts w w0.heap.size (.slice (some ⟨g, 0, none⟩) n n) cur
  Bb : w0.heap.size ≤ b
  box : BoxAt w b 25 (.slice none 0 0)
  bound : IntsAt w0 vb bnd
  blen : bnd.length = n
  low : Below w0.heap.size w0 w
theorem GrowNext.set {w0 w : World} {vb : Value} {bnd : List Int} {b g n : Nat} {cur : List Int} (h : GrowNext w0 w vb bnd b g n cur) (i : Nat) (x : Int) (hn : 1 ≤ n) : GrowNext w0 (w.setCell ⟨g, i, none⟩ (.int .i64 x)) vb bnd b g n (cur.set i x) := by
  have hg := grown_set w g i (.int .i64 x)
  have hB := (Own.lt h.word rfl).1
  exact ⟨OwnInts.set h.word i x, h.Bb, h.box.grown hg (h.box.apart h.word (by decide)), h.bound, h.blen, h.low.grown hg h.low.size (fun k hk => by cases hk; exact hB)⟩
theorem GrowNext.at {w0 w : World} {vb : Value} {bnd : List Int} {b g n : Nat} {cur : List Int} (h : GrowNext w0 w vb bnd b g n cur) : IntsAt w vb bnd := h.bound.below h.low
set_option maxHeartbeats 800000 in
theorem see_next {w0 w : World} {vb : Value} {bnd : List Int} {b g n : Nat} {cur : List Int} {Q : Ending → World → Prop} (hw : GrowNext w0 w vb bnd b g n cur) (hn : n ≤ 10) (hc : cur.length = n)
    (hQ : ∀ v w', OwnInts w' w0.heap.size v cur → BoxAt w' b 25 v → Below w0.heap.size w0 w' → Q (.returned (.bool false)) w') :
    Calls Try.prog 77 #[.slice (some ⟨g, 0, none⟩) n n, .pointer (some ⟨b, 0, none⟩)] w Q := by
  have H := Lib.hid hQ; clear hQ
  have hcw : IntsAt w (.slice (some ⟨g, 0, none⟩) n n) cur := OwnInts.at hw.word
  have hBb := hw.Bb
  have hbox := hw.box
  have hlow := hw.low
  clear hw
  go_enter Try.func77, Try.ntmps77
  go_wp2_with fail
  refine Clone_c hcw (by omega) ?_
  intro v2 w2 o2 b2
  obtain ⟨ao2, ca2, rfl, _, _, _⟩ := Own.form o2
  have hbox2 := hbox.below b2
  have hcell := hbox2.cell
  have hfro := hbox2.frozen
  have hls := hlow.size
  have o2' := Own.mono o2 hls
  have h3 := Lib.hid (H.out _ _ (Own.setOther o2' (.slice ao2 (ints cur).length ca2) (hbox2.apart o2' (by decide))) (hbox2.set _) ((hlow.trans (b2.mono hls)).setCell hBb _))
  clear o2'
  go_wp2_with fail
  exact h3.out
theorem Words.visTo_pre (k : Nat) (b : List Int) (r : Nat) (pre : List Int) (over : Bool) {x : Nat} : ∀ {y : Nat}, x ≤ y → ∃ s, Words.visTo k b r pre over y = Words.visTo k b r pre over x ++ s
  | 0, h => ⟨[], by obtain rfl : x = 0 := by omega
                    simp⟩
  | y + 1, h => by
    by_cases e : x = y + 1
    · exact ⟨[], by rw [e, List.append_nil]⟩
    · obtain ⟨s, hs⟩ := Words.visTo_pre k b r pre over (x := x) (y := y) (by omega)
      exact ⟨s ++ Words.vis k b r (pre ++ [(y : Int)]) over, by rw [Words.visTo_step, hs, List.append_assoc]⟩
end Go.Proofs.Ytdibmjijpdliaaa
/- 'grow', when it seeks the next necklace: the walk. -/
set_option linter.unusedVariables false
namespace Go.Proofs.Ytdibmjijpdliaaa
open Go.RowKit

def GrowNextAt (r : Nat) : Prop := ∀ (b g n p : Nat) (k a pi : Int) (ov : Bool) (pre cur bnd : List Int) (vb : Value) (w0 w : World) (Q : Ending → World → Prop) (ha : a = pre.length) (hpi : pi = p) (hk1 : 1 ≤ k) (hk4 : k ≤ 4) (hn : n ≤ 10) (hn1 : 1 ≤ n) (hp : pre.length + r = n) (hc : cur.length = n) (ht : cur.take pre.length = pre)
    (hst : Words.St pre p) (hpr : ∀ x ∈ pre, 0 ≤ x ∧ x < k) (hov : ov = false → pre = bnd.take pre.length) (hw : GrowNext w0 w vb bnd b g n cur)
    (hQ1 : Words.vis k.toNat bnd r pre ov = [] → ∀ w' cur', cur'.length = n → cur'.take pre.length = pre → GrowNext w0 w' vb bnd b g n cur' → Q (.returned (.bool true)) w')
    (hQ2 : ∀ x rest v w', Words.vis k.toNat bnd r pre ov = x :: rest → OwnInts w' w0.heap.size v x → BoxAt w' b 25 v → Below w0.heap.size w0 w' → Q (.returned (.bool false)) w'),
    Calls Try.prog 76 #[.slice (some ⟨g, 0, none⟩) n n, .int .i64 a, .int .i64 pi, .int .i64 k, vb, .bool ov, .func (.func 77) #[] #[.pointer (some ⟨b, 0, none⟩)]] w Q
set_option maxHeartbeats 6400000 in
theorem grow_next : ∀ (r : Nat), GrowNextAt r := by
  intro r
  induction r with
  | zero =>
    intro b g n p k a pi ov pre cur bnd vb w0 w Q ha hpi hk1 hk4 hn hn1 hp hc ht hst hpr hov hw hQ1 hQ2
    have H1 := Lib.hid hQ1; clear hQ1
    have H2 := Lib.hid hQ2; clear hQ2
    subst ha hpi
    have hcp : cur = pre := by rw [← ht, List.take_of_length_le (by omega)]
    subst hcp
    have hpn : cur ≠ [] := by intro e; rw [e] at hc; simp at hc; omega
    have hnk := Lib.hid (hst.neck hpn)
    have hp1 := hst.pos
    have hpl := hst.le hpn
    have hv := Lib.hid (Words.vis_zero k.toNat bnd cur ov)
    have hw' := Lib.hid hw
    have hov' := Lib.hid hov
    clear hw hpr hst ht hov
    have hp5 : ¬ (p = 0) := by omega
    obtain ⟨m, hm⟩ : ∃ m, m = cur.length % p := ⟨_, rfl⟩
    have hmI : (n : Int) % p = m := by rw [hm, hc, Int.natCast_emod]
    have hm' := Lib.hid hm
    clear hm
    by_cases h0 : m = 0
    · subst h0
      cases ov with
      | true =>
        have hv2 : Words.vis k.toNat bnd 0 cur true = [cur] := by
          rw [hv.out, hnk.out, ← hm'.out]; simp
        go_enter Try.func76, Try.ntmps76
        have hv3 := Lib.hid hv2
        clear hv2
        go_wp2_with fail
        refine see_next hw'.out hn hc ?_
        intro v w2 o2 bx2 b2
        have h3 := Lib.hid (H2.out cur [] v w2 hv3.out o2 bx2 b2)
        clear bx2
        go_wp2_with fail
        exact h3.out
      | false =>
        have hv2 : Words.vis k.toNat bnd 0 cur false = [] := by
          have hb : cur = bnd := by
            have h := hov'.out rfl
            rw [hc, List.take_of_length_le (by rw [hw'.out.blen]; exact Nat.le_refl _)] at h
            exact h
          rw [hv.out, ← hb, Words.cmpL_self]; simp
        have h3 := Lib.hid (H1.out hv2 w cur hc (by rw [List.take_length]) hw'.out)
        clear hv2
        go_enter Try.func76, Try.ntmps76
        go_wp2_with fail
        exact h3.out
    · have hv2 : Words.vis k.toNat bnd 0 cur ov = [] := by
        rw [hv.out, hnk.out, ← hm'.out, decide_eq_false h0]; simp
      have h3 := Lib.hid (H1.out hv2 w cur hc (by rw [List.take_length]) hw'.out)
      clear hv2
      go_enter Try.func76, Try.ntmps76
      go_wp2_with fail
      exact h3.out
  | succ r ih =>
    intro b g n p k a pi ov pre cur bnd vb w0 w Q ha hpi hk1 hk4 hn hn1 hp hc ht hst hpr hov hw hQ1 hQ2
    have H1 := Lib.hid hQ1; clear hQ1
    have H2 := Lib.hid hQ2; clear hQ2
    subst ha hpi
    cases ov with
    | true =>
      obtain ⟨avb, cvb, hvb, lvb, lcvb, ccvb⟩ := hw.bound.form
      have hbl := hw.blen
      rw [hbl] at hvb
      subst hvb
      obtain ⟨hl0, hl1⟩ := Words.leastL_in hk1 hst hpr
      have hpn : pre.length < n := by omega
      have hst' := Lib.hid hst
      have hpr' := Lib.hid hpr
      have hp1 := hst.pos
      have hn0 : ((pre.length : Int) == n) = false := by simp; omega
      obtain ⟨l, hl⟩ : ∃ l : Nat, (l : Int) = Words.leastL pre p := ⟨(Words.leastL pre p).toNat, by omega⟩
      have hle := hst.le
      have hcell0 : pre ≠ [] → cur[pre.length - p]? = some (l : Int) := fun h0 => by
        have h1 := hle h0
        have h2 : (cur.take pre.length)[pre.length - p]? = some (Words.at_ pre (pre.length - p)) := by rw [ht]; exact Words.at_some (by omega)
        rw [List.getElem?_take, if_pos (by omega)] at h2
        rw [h2, hl]
        unfold Words.leastL
        rw [if_neg h0]
      rw [← hl] at hl0 hl1
      have hlk := Lib.hid hl
      have hw' := Lib.hid hw
      clear hl hst hpr hw
      obtain ⟨j, hj0⟩ : ∃ j, j = pre.length := ⟨_, rfl⟩
      have hj := Lib.hid hj0
      rw [← hj0] at hn0 hpn hcell0 hp ht hle
      rw [← hj0]
      clear hj0
      have ht' := Lib.hid ht
      clear ht
      clear hov
      by_cases h0 : j = 0
      · have hpe : Hid (pre = []) := Lib.hid (by have := hj.out; rw [h0] at this; exact List.length_eq_zero_iff.1 this.symm)
        have hl2 : l = 0 := by
          have := hlk.out
          unfold Words.leastL at this
          rw [if_pos hpe.out] at this
          omega
        clear hcell0 hle
        have hj1 : ((j : Int) == 0) = true := by rw [h0]; rfl
        have hj2 : ¬ (0 < (j : Int)) := by omega
        have hj3 : ¬ (0 < j) := by omega
        subst hl2
        clear h0
        go_enter Try.func76, Try.ntmps76
        go_wp2_with fail
        go_loopg [17] k.toNat (fun gg i wr => ∃ (x : Nat) (cur' : List Int), i = .int .i64 x ∧ Hid (0 ≤ x) ∧ (x : Int) ≤ k ∧ cur'.length = n ∧ Hid (cur'.take j = pre) ∧ GrowNext w0 wr (.slice avb n cvb) bnd b g n cur' ∧ Hid (Words.visTo k.toNat bnd r pre true x = []) ∧ k ≤ x + gg)
        case atStart => exact ⟨0, cur, by first | rfl | go_num, Lib.hid (Nat.le_refl _), by omega, hc, ht'.out, hw'.out, Lib.hid (Words.visTo_low hst'.out (by rw [← hlk.out]; exact Int.le_refl _)), by omega⟩
        case round =>
          obtain ⟨x, cur', rfl, hlx, hxk, hcl, hct, hgw, hvt, hm⟩ := hrel
          by_cases hx : (x : Int) < k
          · have hfr := Own.frozen hgw.word j
            obtain ⟨x0, _, hc0⟩ := OwnInts.cell hgw.word (k := j) (by omega)
            have i1 : (j : Int) < n := by omega
            have htk : Hid ((cur'.set j (x : Int)).take (pre ++ [(x : Int)]).length = pre ++ [(x : Int)]) := Lib.hid (by
              rw [List.length_append, List.length_singleton, ← hj.out, List.take_add_one, List.getElem?_set_self (by omega), List.take_set_of_le (Nat.le_refl _), hct.out]
              rfl)
            have hsn := Lib.hid (hst'.out.next (x := (x : Int)) (by rw [← hlk.out]; have := hlx.out; omega))
            have hpx : Hid (∀ z ∈ pre ++ [(x : Int)], 0 ≤ z ∧ z < k) := Lib.hid (by
              intro z hz
              rcases List.mem_append.1 hz with h | h
              · exact hpr'.out z h
              · simp at h; omega)
            have hnp : Hid (Words.nextP pre p x = 1) := Lib.hid (by unfold Words.nextP; rw [if_pos hpe.out])
            go_wp2_with fail
            refine ih b g n (Words.nextP pre p x) k _ _ true (pre ++ [(x : Int)]) (cur'.set j x) bnd _ w0 _ _ (by rw [List.length_append, List.length_singleton, ← hj.out] <;> go_num) (by rw [hnp.out] <;> go_num) hk1 hk4 hn hn1 (by rw [List.length_append, List.length_singleton, ← hj.out]; omega) (by rw [List.length_set]; exact hcl) htk.out hsn.out hpx.out (fun h => by cases h) (hgw.set j x hn1) ?_ ?_
            · intro hv w2 cur2 hc2 ht2 hw2
              have hw2' := Lib.hid hw2
              have hvn : Hid (Words.visTo k.toNat bnd r pre true (x + 1) = []) := Lib.hid (by rw [Words.visTo_step, hvt.out, hv]; rfl)
              have ht2' : Hid (cur2.take j = pre) := Lib.hid (by
                rw [List.length_append, List.length_singleton, ← hj.out] at ht2
                have h := congrArg (fun z => z.take j) ht2
                simp only [List.take_take, Nat.min_eq_left (Nat.le_succ j)] at h
                rw [h, hj.out, List.take_left])
              clear hw2 ht2 hv
              go_wp2_with fail
              go_roundg (gk - 1)
              case measure => omega
              case rel => exact ⟨x + 1, cur2, by go_num, Lib.hid (Nat.le_succ_of_le hlx.out), by omega, hc2, ht2', hw2'.out, hvn, by omega⟩
            · intro z rest v w2 hv o2 bx2 b2
              obtain ⟨s, hs⟩ := Words.visTo_pre k.toNat bnd r pre true (x := x + 1) (y := k.toNat) (by omega)
              rw [Words.visTo_all, Words.visTo_step, hvt.out, hv, List.nil_append, List.cons_append] at hs
              have h3 := Lib.hid (H2.out z _ v w2 hs o2 bx2 b2)
              clear hv hs bx2
              go_wp2_with fail
              exact h3.out
          · have hv : Words.vis k.toNat bnd (r + 1) pre true = [] := by rw [← Words.visTo_all, show k.toNat = x from by omega]; rw [show x = k.toNat from by omega] at hvt ⊢; exact hvt.out
            have h3 := Lib.hid (H1.out hv wr cur' hcl (by rw [← hj.out]; exact hct.out) hgw)
            clear hv
            go_wp2_with fail
            exact h3.out
      · have hpe : Hid (pre ≠ []) := Lib.hid (by intro e; have := hj.out; rw [e] at this; simp at this; omega)
        have hcl0 := hcell0 hpe.out
        have hle2 := hle hpe.out
        clear hcell0 hle
        have hj1 : ((j : Int) == 0) = false := by simp; omega
        have hj2 : 0 < (j : Int) := by omega
        have hj3 : 0 < j := by omega
        have hjp : ((j : Int) - p).toNat = j - p := by omega
        have hjp0 : 0 ≤ (j : Int) - p := by omega
        have hjpn : (j : Int) - p < n := by omega
        have hcc := Own.cell hw'.out.word (k := j - p) (by rw [ints_get, hcl0]; rfl)
        clear hcl0 h0
        go_enter Try.func76, Try.ntmps76
        go_wp2_with fail
        go_loopg [17] k.toNat (fun gg i wr => ∃ (x : Nat) (cur' : List Int), i = .int .i64 x ∧ Hid (l ≤ x) ∧ (x : Int) ≤ k ∧ cur'.length = n ∧ Hid (cur'.take j = pre) ∧ GrowNext w0 wr (.slice avb n cvb) bnd b g n cur' ∧ Hid (Words.visTo k.toNat bnd r pre true x = []) ∧ k ≤ x + gg)
        case atStart => exact ⟨l, cur, by first | rfl | go_num, Lib.hid (Nat.le_refl _), by omega, hc, ht'.out, hw'.out, Lib.hid (Words.visTo_low hst'.out (by rw [← hlk.out]; exact Int.le_refl _)), by omega⟩
        case round =>
          obtain ⟨x, cur', rfl, hlx, hxk, hcl, hct, hgw, hvt, hm⟩ := hrel
          by_cases hx : (x : Int) < k
          · have hfr := Own.frozen hgw.word j
            obtain ⟨x0, _, hc0⟩ := OwnInts.cell hgw.word (k := j) (by omega)
            have i1 : (j : Int) < n := by omega
            have htk : Hid ((cur'.set j (x : Int)).take (pre ++ [(x : Int)]).length = pre ++ [(x : Int)]) := Lib.hid (by
              rw [List.length_append, List.length_singleton, ← hj.out, List.take_add_one, List.getElem?_set_self (by omega), List.take_set_of_le (Nat.le_refl _), hct.out]
              rfl)
            have hsn := Lib.hid (hst'.out.next (x := (x : Int)) (by rw [← hlk.out]; have := hlx.out; omega))
            have hpx : Hid (∀ z ∈ pre ++ [(x : Int)], 0 ≤ z ∧ z < k) := Lib.hid (by
              intro z hz
              rcases List.mem_append.1 hz with h | h
              · exact hpr'.out z h
              · simp at h; omega)
            by_cases hxl : x = l
            · have hnp : Hid (Words.nextP pre p x = p) := Lib.hid (by unfold Words.nextP; rw [if_neg hpe.out, if_pos (by rw [← hlk.out, hxl])])
              have hxl2 : ((x : Int) != l) = false := by rw [hxl]; simp
              clear hxl
              go_wp2_with fail
              refine ih b g n (Words.nextP pre p x) k _ _ true (pre ++ [(x : Int)]) (cur'.set j x) bnd _ w0 _ _ (by rw [List.length_append, List.length_singleton, ← hj.out] <;> go_num) (by rw [hnp.out] <;> go_num) hk1 hk4 hn hn1 (by rw [List.length_append, List.length_singleton, ← hj.out]; omega) (by rw [List.length_set]; exact hcl) htk.out hsn.out hpx.out (fun h => by cases h) (hgw.set j x hn1) ?_ ?_
              · intro hv w2 cur2 hc2 ht2 hw2
                have hw2' := Lib.hid hw2
                have hvn : Hid (Words.visTo k.toNat bnd r pre true (x + 1) = []) := Lib.hid (by rw [Words.visTo_step, hvt.out, hv]; rfl)
                have ht2' : Hid (cur2.take j = pre) := Lib.hid (by
                  rw [List.length_append, List.length_singleton, ← hj.out] at ht2
                  have h := congrArg (fun z => z.take j) ht2
                  simp only [List.take_take, Nat.min_eq_left (Nat.le_succ j)] at h
                  rw [h, hj.out, List.take_left])
                clear hw2 ht2 hv
                go_wp2_with fail
                go_roundg (gk - 1)
                case measure => omega
                case rel => exact ⟨x + 1, cur2, by go_num, Lib.hid (Nat.le_succ_of_le hlx.out), by omega, hc2, ht2', hw2'.out, hvn, by omega⟩
              · intro z rest v w2 hv o2 bx2 b2
                obtain ⟨s, hs⟩ := Words.visTo_pre k.toNat bnd r pre true (x := x + 1) (y := k.toNat) (by omega)
                rw [Words.visTo_all, Words.visTo_step, hvt.out, hv, List.nil_append, List.cons_append] at hs
                have h3 := Lib.hid (H2.out z _ v w2 hs o2 bx2 b2)
                clear hv hs bx2
                go_wp2_with fail
                exact h3.out
            · have hnp : Hid (Words.nextP pre p x = j + 1) := Lib.hid (by unfold Words.nextP; rw [if_neg hpe.out, if_neg (by rw [← hlk.out]; omega), hj.out])
              have hxl2 : ((x : Int) != l) = true := by simp; omega
              clear hxl
              go_wp2_with fail
              refine ih b g n (Words.nextP pre p x) k _ _ true (pre ++ [(x : Int)]) (cur'.set j x) bnd _ w0 _ _ (by rw [List.length_append, List.length_singleton, ← hj.out] <;> go_num) (by rw [hnp.out] <;> go_num) hk1 hk4 hn hn1 (by rw [List.length_append, List.length_singleton, ← hj.out]; omega) (by rw [List.length_set]; exact hcl) htk.out hsn.out hpx.out (fun h => by cases h) (hgw.set j x hn1) ?_ ?_
              · intro hv w2 cur2 hc2 ht2 hw2
                have hw2' := Lib.hid hw2
                have hvn : Hid (Words.visTo k.toNat bnd r pre true (x + 1) = []) := Lib.hid (by rw [Words.visTo_step, hvt.out, hv]; rfl)
                have ht2' : Hid (cur2.take j = pre) := Lib.hid (by
                  rw [List.length_append, List.length_singleton, ← hj.out] at ht2
                  have h := congrArg (fun z => z.take j) ht2
                  simp only [List.take_take, Nat.min_eq_left (Nat.le_succ j)] at h
                  rw [h, hj.out, List.take_left])
                clear hw2 ht2 hv
                go_wp2_with fail
                go_roundg (gk - 1)
                case measure => omega
                case rel => exact ⟨x + 1, cur2, by go_num, Lib.hid (Nat.le_succ_of_le hlx.out), by omega, hc2, ht2', hw2'.out, hvn, by omega⟩
              · intro z rest v w2 hv o2 bx2 b2
                obtain ⟨s, hs⟩ := Words.visTo_pre k.toNat bnd r pre true (x := x + 1) (y := k.toNat) (by omega)
                rw [Words.visTo_all, Words.visTo_step, hvt.out, hv, List.nil_append, List.cons_append] at hs
                have h3 := Lib.hid (H2.out z _ v w2 hs o2 bx2 b2)
                clear hv hs bx2
                go_wp2_with fail
                exact h3.out
          · have hv : Words.vis k.toNat bnd (r + 1) pre true = [] := by rw [← Words.visTo_all, show k.toNat = x from by omega]; rw [show x = k.toNat from by omega] at hvt ⊢; exact hvt.out
            have h3 := Lib.hid (H1.out hv wr cur' hcl (by rw [← hj.out]; exact hct.out) hgw)
            clear hv
            go_wp2_with fail
            exact h3.out
    | false =>
      obtain ⟨avb, cvb, hvb, lvb, lcvb, ccvb⟩ := hw.bound.form
      have hbl := hw.blen
      rw [hbl] at hvb
      subst hvb
      obtain ⟨hl0, hl1⟩ := Words.leastL_in hk1 hst hpr
      have hpn : pre.length < n := by omega
      have hst' := Lib.hid hst
      have hpr' := Lib.hid hpr
      have hp1 := hst.pos
      have hn0 : ((pre.length : Int) == n) = false := by simp; omega
      obtain ⟨l, hl⟩ : ∃ l : Nat, (l : Int) = Words.leastL pre p := ⟨(Words.leastL pre p).toNat, by omega⟩
      have hle := hst.le
      have hcell0 : pre ≠ [] → cur[pre.length - p]? = some (l : Int) := fun h0 => by
        have h1 := hle h0
        have h2 : (cur.take pre.length)[pre.length - p]? = some (Words.at_ pre (pre.length - p)) := by rw [ht]; exact Words.at_some (by omega)
        rw [List.getElem?_take, if_pos (by omega)] at h2
        rw [h2, hl]
        unfold Words.leastL
        rw [if_neg h0]
      rw [← hl] at hl0 hl1
      have hlk := Lib.hid hl
      have hw' := Lib.hid hw
      clear hl hst hpr hw
      obtain ⟨j, hj0⟩ : ∃ j, j = pre.length := ⟨_, rfl⟩
      have hj := Lib.hid hj0
      rw [← hj0] at hn0 hpn hcell0 hp ht hle
      rw [← hj0]
      clear hj0
      have ht' := Lib.hid ht
      clear ht
      have hpb : Hid (pre = bnd.take j) := Lib.hid (by have h := hov rfl; rw [← hj.out] at h; exact h)
      clear hov
      by_cases h0 : j = 0
      · have hpe : Hid (pre = []) := Lib.hid (by have := hj.out; rw [h0] at this; exact List.length_eq_zero_iff.1 this.symm)
        have hl2 : l = 0 := by
          have := hlk.out
          unfold Words.leastL at this
          rw [if_pos hpe.out] at this
          omega
        clear hcell0 hle
        have hj1 : ((j : Int) == 0) = true := by rw [h0]; rfl
        have hj2 : ¬ (0 < (j : Int)) := by omega
        have hj3 : ¬ (0 < j) := by omega
        subst hl2
        clear h0
        go_enter Try.func76, Try.ntmps76
        go_wp2_with fail
        go_loopg [17] k.toNat (fun gg i wr => ∃ (x : Nat) (cur' : List Int), i = .int .i64 x ∧ Hid (0 ≤ x) ∧ (x : Int) ≤ k ∧ cur'.length = n ∧ Hid (cur'.take j = pre) ∧ GrowNext w0 wr (.slice avb n cvb) bnd b g n cur' ∧ Hid (Words.visTo k.toNat bnd r pre false x = []) ∧ k ≤ x + gg)
        case atStart => exact ⟨0, cur, by first | rfl | go_num, Lib.hid (Nat.le_refl _), by omega, hc, ht'.out, hw'.out, Lib.hid (Words.visTo_low hst'.out (by rw [← hlk.out]; exact Int.le_refl _)), by omega⟩
        case round =>
          obtain ⟨x, cur', rfl, hlx, hxk, hcl, hct, hgw, hvt, hm⟩ := hrel
          by_cases hx : (x : Int) < k
          · have hfr := Own.frozen hgw.word j
            obtain ⟨x0, _, hc0⟩ := OwnInts.cell hgw.word (k := j) (by omega)
            have i1 : (j : Int) < n := by omega
            have htk : Hid ((cur'.set j (x : Int)).take (pre ++ [(x : Int)]).length = pre ++ [(x : Int)]) := Lib.hid (by
              rw [List.length_append, List.length_singleton, ← hj.out, List.take_add_one, List.getElem?_set_self (by omega), List.take_set_of_le (Nat.le_refl _), hct.out]
              rfl)
            have hsn := Lib.hid (hst'.out.next (x := (x : Int)) (by rw [← hlk.out]; have := hlx.out; omega))
            have hpx : Hid (∀ z ∈ pre ++ [(x : Int)], 0 ≤ z ∧ z < k) := Lib.hid (by
              intro z hz
              rcases List.mem_append.1 hz with h | h
              · exact hpr'.out z h
              · simp at h; omega)
            obtain ⟨bb, ob, y, e0, hy, hcy⟩ := hgw.at.cell (k := j) (by omega)
            have hyv : Words.at_ bnd j = y := by unfold Words.at_; simp [List.getD, hy.out]
            have hblr : bnd.length = j + 1 + r := by omega
            have i2 : (j : Int) < bnd.length := by omega
            subst e0
            have hcy2 : (wr.setCell ⟨g, j, none⟩ (.int .i64 (x : Int))).cell? ⟨bb, ob + j, none⟩ = some (.int .i64 y) := by
              obtain ⟨b2, o2, y2, e2, hy2, hc2⟩ := (hgw.set j (x : Int) hn1).at.cell (k := j) (by omega)
              cases e2
              have h := hy2.out
              rw [hy.out] at h
              cases h
              exact hc2
            by_cases hlt : (x : Int) < y
            · have hvn : Hid (Words.visTo k.toNat bnd r pre false (x + 1) = []) := Lib.hid (by
                rw [Words.visTo_step, hvt.out, hpb.out, Words.vis_below hblr (by rw [hyv]; exact hlt)]; rfl)
              clear hyv
              go_wp2_with fail
              go_roundg (gk - 1)
              case measure => omega
              case rel => exact ⟨x + 1, cur', by go_num, Lib.hid (Nat.le_succ_of_le hlx.out), by omega, hcl, hct, hgw, hvn, by omega⟩
            · by_cases hxy : y < (x : Int)
              · have hve : Hid (Words.vis k.toNat bnd r (pre ++ [(x : Int)]) false = Words.vis k.toNat bnd r (pre ++ [(x : Int)]) true) := Lib.hid (by
                  rw [hpb.out]; exact Words.vis_above hblr (by rw [hyv]; exact hxy))
                clear hyv
                have hnp : Hid (Words.nextP pre p x = 1) := Lib.hid (by unfold Words.nextP; rw [if_pos hpe.out])
                go_wp2_with fail
                refine ih b g n (Words.nextP pre p x) k _ _ true (pre ++ [(x : Int)]) (cur'.set j x) bnd _ w0 _ _ (by rw [List.length_append, List.length_singleton, ← hj.out] <;> go_num) (by rw [hnp.out] <;> go_num) hk1 hk4 hn hn1 (by rw [List.length_append, List.length_singleton, ← hj.out]; omega) (by rw [List.length_set]; exact hcl) htk.out hsn.out hpx.out (fun h => by cases h) (hgw.set j x hn1) ?_ ?_
                · intro hv w2 cur2 hc2 ht2 hw2
                  have hw2' := Lib.hid hw2
                  have hvn : Hid (Words.visTo k.toNat bnd r pre false (x + 1) = []) := Lib.hid (by rw [Words.visTo_step, hvt.out, hve.out, hv]; rfl)
                  have ht2' : Hid (cur2.take j = pre) := Lib.hid (by
                    rw [List.length_append, List.length_singleton, ← hj.out] at ht2
                    have h := congrArg (fun z => z.take j) ht2
                    simp only [List.take_take, Nat.min_eq_left (Nat.le_succ j)] at h
                    rw [h, hj.out, List.take_left])
                  clear hw2 ht2 hv
                  go_wp2_with fail
                  go_roundg (gk - 1)
                  case measure => omega
                  case rel => exact ⟨x + 1, cur2, by go_num, Lib.hid (Nat.le_succ_of_le hlx.out), by omega, hc2, ht2', hw2'.out, hvn, by omega⟩
                · intro z rest v w2 hv o2 bx2 b2
                  obtain ⟨s, hs⟩ := Words.visTo_pre k.toNat bnd r pre false (x := x + 1) (y := k.toNat) (by omega)
                  rw [Words.visTo_all, Words.visTo_step, hvt.out, hve.out, hv, List.nil_append, List.cons_append] at hs
                  have h3 := Lib.hid (H2.out z _ v w2 hs o2 bx2 b2)
                  clear hv hs bx2
                  go_wp2_with fail
                  exact h3.out
              · have hov2 : Hid (pre ++ [(x : Int)] = bnd.take (pre ++ [(x : Int)]).length) := Lib.hid (by
                  rw [List.length_append, List.length_singleton, ← hj.out, List.take_add_one, hy.out, ← hpb.out, show y = (x : Int) from by omega]
                  rfl)
                clear hyv
                have hnp : Hid (Words.nextP pre p x = 1) := Lib.hid (by unfold Words.nextP; rw [if_pos hpe.out])
                go_wp2_with fail
                refine ih b g n (Words.nextP pre p x) k _ _ false (pre ++ [(x : Int)]) (cur'.set j x) bnd _ w0 _ _ (by rw [List.length_append, List.length_singleton, ← hj.out] <;> go_num) (by rw [hnp.out] <;> go_num) hk1 hk4 hn hn1 (by rw [List.length_append, List.length_singleton, ← hj.out]; omega) (by rw [List.length_set]; exact hcl) htk.out hsn.out hpx.out (fun _ => hov2.out) (hgw.set j x hn1) ?_ ?_
                · intro hv w2 cur2 hc2 ht2 hw2
                  have hw2' := Lib.hid hw2
                  have hvn : Hid (Words.visTo k.toNat bnd r pre false (x + 1) = []) := Lib.hid (by rw [Words.visTo_step, hvt.out, hv]; rfl)
                  have ht2' : Hid (cur2.take j = pre) := Lib.hid (by
                    rw [List.length_append, List.length_singleton, ← hj.out] at ht2
                    have h := congrArg (fun z => z.take j) ht2
                    simp only [List.take_take, Nat.min_eq_left (Nat.le_succ j)] at h
                    rw [h, hj.out, List.take_left])
                  clear hw2 ht2 hv
                  go_wp2_with fail
                  go_roundg (gk - 1)
                  case measure => omega
                  case rel => exact ⟨x + 1, cur2, by go_num, Lib.hid (Nat.le_succ_of_le hlx.out), by omega, hc2, ht2', hw2'.out, hvn, by omega⟩
                · intro z rest v w2 hv o2 bx2 b2
                  obtain ⟨s, hs⟩ := Words.visTo_pre k.toNat bnd r pre false (x := x + 1) (y := k.toNat) (by omega)
                  rw [Words.visTo_all, Words.visTo_step, hvt.out, hv, List.nil_append, List.cons_append] at hs
                  have h3 := Lib.hid (H2.out z _ v w2 hs o2 bx2 b2)
                  clear hv hs bx2
                  go_wp2_with fail
                  exact h3.out
          · have hv : Words.vis k.toNat bnd (r + 1) pre false = [] := by rw [← Words.visTo_all, show k.toNat = x from by omega]; rw [show x = k.toNat from by omega] at hvt ⊢; exact hvt.out
            have h3 := Lib.hid (H1.out hv wr cur' hcl (by rw [← hj.out]; exact hct.out) hgw)
            clear hv
            go_wp2_with fail
            exact h3.out
      · have hpe : Hid (pre ≠ []) := Lib.hid (by intro e; have := hj.out; rw [e] at this; simp at this; omega)
        have hcl0 := hcell0 hpe.out
        have hle2 := hle hpe.out
        clear hcell0 hle
        have hj1 : ((j : Int) == 0) = false := by simp; omega
        have hj2 : 0 < (j : Int) := by omega
        have hj3 : 0 < j := by omega
        have hjp : ((j : Int) - p).toNat = j - p := by omega
        have hjp0 : 0 ≤ (j : Int) - p := by omega
        have hjpn : (j : Int) - p < n := by omega
        have hcc := Own.cell hw'.out.word (k := j - p) (by rw [ints_get, hcl0]; rfl)
        clear hcl0 h0
        go_enter Try.func76, Try.ntmps76
        go_wp2_with fail
        go_loopg [17] k.toNat (fun gg i wr => ∃ (x : Nat) (cur' : List Int), i = .int .i64 x ∧ Hid (l ≤ x) ∧ (x : Int) ≤ k ∧ cur'.length = n ∧ Hid (cur'.take j = pre) ∧ GrowNext w0 wr (.slice avb n cvb) bnd b g n cur' ∧ Hid (Words.visTo k.toNat bnd r pre false x = []) ∧ k ≤ x + gg)
        case atStart => exact ⟨l, cur, by first | rfl | go_num, Lib.hid (Nat.le_refl _), by omega, hc, ht'.out, hw'.out, Lib.hid (Words.visTo_low hst'.out (by rw [← hlk.out]; exact Int.le_refl _)), by omega⟩
        case round =>
          obtain ⟨x, cur', rfl, hlx, hxk, hcl, hct, hgw, hvt, hm⟩ := hrel
          by_cases hx : (x : Int) < k
          · have hfr := Own.frozen hgw.word j
            obtain ⟨x0, _, hc0⟩ := OwnInts.cell hgw.word (k := j) (by omega)
            have i1 : (j : Int) < n := by omega
            have htk : Hid ((cur'.set j (x : Int)).take (pre ++ [(x : Int)]).length = pre ++ [(x : Int)]) := Lib.hid (by
              rw [List.length_append, List.length_singleton, ← hj.out, List.take_add_one, List.getElem?_set_self (by omega), List.take_set_of_le (Nat.le_refl _), hct.out]
              rfl)
            have hsn := Lib.hid (hst'.out.next (x := (x : Int)) (by rw [← hlk.out]; have := hlx.out; omega))
            have hpx : Hid (∀ z ∈ pre ++ [(x : Int)], 0 ≤ z ∧ z < k) := Lib.hid (by
              intro z hz
              rcases List.mem_append.1 hz with h | h
              · exact hpr'.out z h
              · simp at h; omega)
            obtain ⟨bb, ob, y, e0, hy, hcy⟩ := hgw.at.cell (k := j) (by omega)
            have hyv : Words.at_ bnd j = y := by unfold Words.at_; simp [List.getD, hy.out]
            have hblr : bnd.length = j + 1 + r := by omega
            have i2 : (j : Int) < bnd.length := by omega
            subst e0
            have hcy2 : (wr.setCell ⟨g, j, none⟩ (.int .i64 (x : Int))).cell? ⟨bb, ob + j, none⟩ = some (.int .i64 y) := by
              obtain ⟨b2, o2, y2, e2, hy2, hc2⟩ := (hgw.set j (x : Int) hn1).at.cell (k := j) (by omega)
              cases e2
              have h := hy2.out
              rw [hy.out] at h
              cases h
              exact hc2
            by_cases hlt : (x : Int) < y
            · have hvn : Hid (Words.visTo k.toNat bnd r pre false (x + 1) = []) := Lib.hid (by
                rw [Words.visTo_step, hvt.out, hpb.out, Words.vis_below hblr (by rw [hyv]; exact hlt)]; rfl)
              clear hyv
              go_wp2_with fail
              go_roundg (gk - 1)
              case measure => omega
              case rel => exact ⟨x + 1, cur', by go_num, Lib.hid (Nat.le_succ_of_le hlx.out), by omega, hcl, hct, hgw, hvn, by omega⟩
            · by_cases hxy : y < (x : Int)
              · have hve : Hid (Words.vis k.toNat bnd r (pre ++ [(x : Int)]) false = Words.vis k.toNat bnd r (pre ++ [(x : Int)]) true) := Lib.hid (by
                  rw [hpb.out]; exact Words.vis_above hblr (by rw [hyv]; exact hxy))
                clear hyv
                by_cases hxl : x = l
                · have hnp : Hid (Words.nextP pre p x = p) := Lib.hid (by unfold Words.nextP; rw [if_neg hpe.out, if_pos (by rw [← hlk.out, hxl])])
                  have hxl2 : ((x : Int) != l) = false := by rw [hxl]; simp
                  clear hxl
                  go_wp2_with fail
                  refine ih b g n (Words.nextP pre p x) k _ _ true (pre ++ [(x : Int)]) (cur'.set j x) bnd _ w0 _ _ (by rw [List.length_append, List.length_singleton, ← hj.out] <;> go_num) (by rw [hnp.out] <;> go_num) hk1 hk4 hn hn1 (by rw [List.length_append, List.length_singleton, ← hj.out]; omega) (by rw [List.length_set]; exact hcl) htk.out hsn.out hpx.out (fun h => by cases h) (hgw.set j x hn1) ?_ ?_
                  · intro hv w2 cur2 hc2 ht2 hw2
                    have hw2' := Lib.hid hw2
                    have hvn : Hid (Words.visTo k.toNat bnd r pre false (x + 1) = []) := Lib.hid (by rw [Words.visTo_step, hvt.out, hve.out, hv]; rfl)
                    have ht2' : Hid (cur2.take j = pre) := Lib.hid (by
                      rw [List.length_append, List.length_singleton, ← hj.out] at ht2
                      have h := congrArg (fun z => z.take j) ht2
                      simp only [List.take_take, Nat.min_eq_left (Nat.le_succ j)] at h
                      rw [h, hj.out, List.take_left])
                    clear hw2 ht2 hv
                    go_wp2_with fail
                    go_roundg (gk - 1)
                    case measure => omega
                    case rel => exact ⟨x + 1, cur2, by go_num, Lib.hid (Nat.le_succ_of_le hlx.out), by omega, hc2, ht2', hw2'.out, hvn, by omega⟩
                  · intro z rest v w2 hv o2 bx2 b2
                    obtain ⟨s, hs⟩ := Words.visTo_pre k.toNat bnd r pre false (x := x + 1) (y := k.toNat) (by omega)
                    rw [Words.visTo_all, Words.visTo_step, hvt.out, hve.out, hv, List.nil_append, List.cons_append] at hs
                    have h3 := Lib.hid (H2.out z _ v w2 hs o2 bx2 b2)
                    clear hv hs bx2
                    go_wp2_with fail
                    exact h3.out
                · have hnp : Hid (Words.nextP pre p x = j + 1) := Lib.hid (by unfold Words.nextP; rw [if_neg hpe.out, if_neg (by rw [← hlk.out]; omega), hj.out])
                  have hxl2 : ((x : Int) != l) = true := by simp; omega
                  clear hxl
                  go_wp2_with fail
                  refine ih b g n (Words.nextP pre p x) k _ _ true (pre ++ [(x : Int)]) (cur'.set j x) bnd _ w0 _ _ (by rw [List.length_append, List.length_singleton, ← hj.out] <;> go_num) (by rw [hnp.out] <;> go_num) hk1 hk4 hn hn1 (by rw [List.length_append, List.length_singleton, ← hj.out]; omega) (by rw [List.length_set]; exact hcl) htk.out hsn.out hpx.out (fun h => by cases h) (hgw.set j x hn1) ?_ ?_
                  · intro hv w2 cur2 hc2 ht2 hw2
                    have hw2' := Lib.hid hw2
                    have hvn : Hid (Words.visTo k.toNat bnd r pre false (x + 1) = []) := Lib.hid (by rw [Words.visTo_step, hvt.out, hve.out, hv]; rfl)
                    have ht2' : Hid (cur2.take j = pre) := Lib.hid (by
                      rw [List.length_append, List.length_singleton, ← hj.out] at ht2
                      have h := congrArg (fun z => z.take j) ht2
                      simp only [List.take_take, Nat.min_eq_left (Nat.le_succ j)] at h
                      rw [h, hj.out, List.take_left])
                    clear hw2 ht2 hv
                    go_wp2_with fail
                    go_roundg (gk - 1)
                    case measure => omega
                    case rel => exact ⟨x + 1, cur2, by go_num, Lib.hid (Nat.le_succ_of_le hlx.out), by omega, hc2, ht2', hw2'.out, hvn, by omega⟩
                  · intro z rest v w2 hv o2 bx2 b2
                    obtain ⟨s, hs⟩ := Words.visTo_pre k.toNat bnd r pre false (x := x + 1) (y := k.toNat) (by omega)
                    rw [Words.visTo_all, Words.visTo_step, hvt.out, hve.out, hv, List.nil_append, List.cons_append] at hs
                    have h3 := Lib.hid (H2.out z _ v w2 hs o2 bx2 b2)
                    clear hv hs bx2
                    go_wp2_with fail
                    exact h3.out
              · have hov2 : Hid (pre ++ [(x : Int)] = bnd.take (pre ++ [(x : Int)]).length) := Lib.hid (by
                  rw [List.length_append, List.length_singleton, ← hj.out, List.take_add_one, hy.out, ← hpb.out, show y = (x : Int) from by omega]
                  rfl)
                clear hyv
                by_cases hxl : x = l
                · have hnp : Hid (Words.nextP pre p x = p) := Lib.hid (by unfold Words.nextP; rw [if_neg hpe.out, if_pos (by rw [← hlk.out, hxl])])
                  have hxl2 : ((x : Int) != l) = false := by rw [hxl]; simp
                  clear hxl
                  go_wp2_with fail
                  refine ih b g n (Words.nextP pre p x) k _ _ false (pre ++ [(x : Int)]) (cur'.set j x) bnd _ w0 _ _ (by rw [List.length_append, List.length_singleton, ← hj.out] <;> go_num) (by rw [hnp.out] <;> go_num) hk1 hk4 hn hn1 (by rw [List.length_append, List.length_singleton, ← hj.out]; omega) (by rw [List.length_set]; exact hcl) htk.out hsn.out hpx.out (fun _ => hov2.out) (hgw.set j x hn1) ?_ ?_
                  · intro hv w2 cur2 hc2 ht2 hw2
                    have hw2' := Lib.hid hw2
                    have hvn : Hid (Words.visTo k.toNat bnd r pre false (x + 1) = []) := Lib.hid (by rw [Words.visTo_step, hvt.out, hv]; rfl)
                    have ht2' : Hid (cur2.take j = pre) := Lib.hid (by
                      rw [List.length_append, List.length_singleton, ← hj.out] at ht2
                      have h := congrArg (fun z => z.take j) ht2
                      simp only [List.take_take, Nat.min_eq_left (Nat.le_succ j)] at h
                      rw [h, hj.out, List.take_left])
                    clear hw2 ht2 hv
                    go_wp2_with fail
                    go_roundg (gk - 1)
                    case measure => omega
                    case rel => exact ⟨x + 1, cur2, by go_num, Lib.hid (Nat.le_succ_of_le hlx.out), by omega, hc2, ht2', hw2'.out, hvn, by omega⟩
                  · intro z rest v w2 hv o2 bx2 b2
                    obtain ⟨s, hs⟩ := Words.visTo_pre k.toNat bnd r pre false (x := x + 1) (y := k.toNat) (by omega)
                    rw [Words.visTo_all, Words.visTo_step, hvt.out, hv, List.nil_append, List.cons_append] at hs
                    have h3 := Lib.hid (H2.out z _ v w2 hs o2 bx2 b2)
                    clear hv hs bx2
                    go_wp2_with fail
                    exact h3.out
                · have hnp : Hid (Words.nextP pre p x = j + 1) := Lib.hid (by unfold Words.nextP; rw [if_neg hpe.out, if_neg (by rw [← hlk.out]; omega), hj.out])
                  have hxl2 : ((x : Int) != l) = true := by simp; omega
                  clear hxl
                  go_wp2_with fail
                  refine ih b g n (Words.nextP pre p x) k _ _ false (pre ++ [(x : Int)]) (cur'.set j x) bnd _ w0 _ _ (by rw [List.length_append, List.length_singleton, ← hj.out] <;> go_num) (by rw [hnp.out] <;> go_num) hk1 hk4 hn hn1 (by rw [List.length_append, List.length_singleton, ← hj.out]; omega) (by rw [List.length_set]; exact hcl) htk.out hsn.out hpx.out (fun _ => hov2.out) (hgw.set j x hn1) ?_ ?_
                  · intro hv w2 cur2 hc2 ht2 hw2
                    have hw2' := Lib.hid hw2
                    have hvn : Hid (Words.visTo k.toNat bnd r pre false (x + 1) = []) := Lib.hid (by rw [Words.visTo_step, hvt.out, hv]; rfl)
                    have ht2' : Hid (cur2.take j = pre) := Lib.hid (by
                      rw [List.length_append, List.length_singleton, ← hj.out] at ht2
                      have h := congrArg (fun z => z.take j) ht2
                      simp only [List.take_take, Nat.min_eq_left (Nat.le_succ j)] at h
                      rw [h, hj.out, List.take_left])
                    clear hw2 ht2 hv
                    go_wp2_with fail
                    go_roundg (gk - 1)
                    case measure => omega
                    case rel => exact ⟨x + 1, cur2, by go_num, Lib.hid (Nat.le_succ_of_le hlx.out), by omega, hc2, ht2', hw2'.out, hvn, by omega⟩
                  · intro z rest v w2 hv o2 bx2 b2
                    obtain ⟨s, hs⟩ := Words.visTo_pre k.toNat bnd r pre false (x := x + 1) (y := k.toNat) (by omega)
                    rw [Words.visTo_all, Words.visTo_step, hvt.out, hv, List.nil_append, List.cons_append] at hs
                    have h3 := Lib.hid (H2.out z _ v w2 hs o2 bx2 b2)
                    clear hv hs bx2
                    go_wp2_with fail
                    exact h3.out
          · have hv : Words.vis k.toNat bnd (r + 1) pre false = [] := by rw [← Words.visTo_all, show k.toNat = x from by omega]; rw [show x = k.toNat from by omega] at hvt ⊢; exact hvt.out
            have h3 := Lib.hid (H1.out hv wr cur' hcl (by rw [← hj.out]; exact hct.out) hgw)
            clear hv
            go_wp2_with fail
            exact h3.out
end Go.Proofs.Ytdibmjijpdliaaa
/- The next necklace. -/
set_option linter.unusedVariables false
namespace Go.Proofs.Ytdibmjijpdliaaa
open Go.RowKit

/-- The first necklace above a word. -/
def Words.nextOk (xs : List Int) (k : Int) : Bool := Words.okW xs && (decide (1 ≤ k ∧ k ≤ 4) && xs.all fun x => decide (x < k))
def Words.nextO (xs : List Int) (k : Int) : Option (List Int) := if Words.nextOk xs k = true then (Words.vis k.toNat xs xs.length [] false).head? else none
def Words.nextW (xs : List Int) (k : Int) : List Int := (Words.nextO xs k).getD []
def Words.nextB (xs : List Int) (k : Int) : Bool := (Words.nextO xs k).isSome
theorem Words.vis_mem_len {k : Nat} {b : List Int} {r : Nat} {pre : List Int} {over : Bool} {w : List Int} (h : w ∈ Words.vis k b r pre over) : w.length = pre.length + r := by
  unfold Words.vis at h
  obtain ⟨h1, _⟩ := List.mem_filter.1 h
  obtain ⟨u, hu, rfl⟩ := List.mem_map.1 h1
  rw [List.length_append, (Perms.wordsN_mem.1 hu).1]
theorem Words.nextW_len (xs : List Int) (k : Int) : (Words.nextW xs k).length ≤ 10 := by
  unfold Words.nextW Words.nextO
  split
  · rename_i h
    unfold Words.nextOk at h
    simp only [Bool.and_eq_true] at h
    have hl := Words.okW_len h.1
    cases hv : (Words.vis k.toNat xs xs.length [] false).head? with
    | none => simp
    | some z =>
      have := Words.vis_mem_len (List.mem_of_head? hv)
      simp at this
      simp
      omega
  · simp
set_option maxHeartbeats 1600000 in
theorem NextNecklace_i {va : Value} {xs : List Int} {k : Int} {w : World} {Q : Ending → World → Prop} (ha : IntsAt w va xs)
    (hQ : ∀ v w', OwnInts w' w.heap.size v (Words.nextW xs k) → Below w.heap.size w w' → Q (.returned (.tuple #[v, .bool (Words.nextB xs k)])) w') :
    Calls Try.prog 35 #[va, .int .i64 k] w Q := by
  have H := Lib.hid hQ; clear hQ
  have ha0 := Lib.hid ha
  obtain ⟨aa, ca, rfl, la, lca, cca⟩ := ha.form
  have bad : ∀ w', Below w.heap.size w w' → Words.nextOk xs k = false → Q (.returned (.tuple #[.slice none 0 0, .bool false])) w' := fun w' hb hf => by
    have e : Words.nextO xs k = none := by unfold Words.nextO; rw [if_neg (by rw [hf]; simp)]
    have := H.out (.slice none 0 0) w' (by unfold Words.nextW; rw [e]; exact Own.nil _ _ _) hb
    unfold Words.nextB at this
    rw [e] at this; exact this
  have bad' := Lib.hid bad
  clear bad
  go_enter Try.func35, Try.ntmps35
  go_wp2_with fail
  refine ColoringOk_i ha0.out ?_
  by_cases hok : Words.okW xs = true
  rotate_left
  · have hok2 : Words.okW xs = false := by simpa using hok
    have hf : Hid (Words.nextOk xs k = false) := Lib.hid (by unfold Words.nextOk; rw [hok2]; rfl)
    rw [hok2]
    clear hok hok2
    go_wp2_with fail
    exact bad'.out _ (Below.refl _ _) hf.out
  have hok' := Lib.hid hok
  obtain ⟨hl1, hl2⟩ := Words.okW_len hok
  rw [hok]
  clear hok
  by_cases hk : 1 ≤ k ∧ k ≤ 4
  rotate_left
  · have hd : Hid (decide (1 ≤ k ∧ k ≤ 4) = false) := Lib.hid (decide_eq_false hk)
    have hf : Hid (Words.nextOk xs k = false) := Lib.hid (by unfold Words.nextOk; rw [hd.out, Bool.false_and, Bool.and_false])
    clear hk
    go_wp2_with (go_at_call 72; refine isColors_i ?_; rw [hd.out])
    all_goals exact bad'.out _ (Below.refl _ _) hf.out
  have hd : Hid (decide (1 ≤ k ∧ k ≤ 4) = true) := Lib.hid (decide_eq_true hk)
  obtain ⟨hk1, hk4⟩ := hk
  go_wp2_with (go_at_call 72; refine isColors_i ?_; rw [hd.out])
  refine below_i ha0.out ?_
  intro w1 b1
  cases hb : xs.all fun x => decide (x < k) with
  | false =>
    have hf : Hid (Words.nextOk xs k = false) := Lib.hid (by unfold Words.nextOk; rw [hb, Bool.and_false, Bool.and_false])
    clear hb
    go_wp2_with fail
    exact bad'.out _ b1 hf.out
  | true =>
    have hno : Hid (Words.nextO xs k = (Words.vis k.toNat xs xs.length [] false).head?) := Lib.hid (by
      unfold Words.nextO; rw [if_pos (by unfold Words.nextOk; rw [hok'.out, hd.out, hb]; rfl)])
    clear hb
    have ha1 := ha0.out.below b1
    have hb1 := b1.size
    go_wp2_with (at_make; refine mk_ints rfl (.tmp 22) (.tmp 22) rfl rfl rfl xs.length rfl (by omega) ?_; intro w2 ho2 hb2 hs2)
    have hq1 : (w1.alloc (.cells #[.slice none 0 0] 25)).heap.size = w1.heap.size + 1 := by rw [World.size_alloc]
    have hbx : BoxAt (w1.alloc (.cells #[.slice none 0 0] 25)) w1.heap.size 25 (.slice none 0 0) := heap_alloc_new _ _
    have hbx2 := hbx.below hb2
    have hlow : Below w1.heap.size w1 w2 := (below_alloc w1 _).trans (hb2.mono (by rw [hq1]; omega))
    rw [hq1] at ho2 hs2
    have hG : GrowNext w1 w2 (.slice aa xs.length ca) xs w1.heap.size (w1.heap.size + 1) xs.length (List.replicate xs.length 0) :=
      ⟨OwnInts.mono ho2 (by omega), Nat.le_refl _, hbx2, ha1, rfl, hlow⟩
    have hG' := Lib.hid hG
    clear hG hbx hbx2 ho2 hs2 hb2 hq1 ha1
    go_wp2_with fail
    refine grow_next xs.length w1.heap.size (w1.heap.size + 1) xs.length 1 k _ _ false [] (List.replicate xs.length 0) xs _ w1 _ _ rfl rfl hk1 hk4 hl2 hl1 (by simp) (by simp) (by simp) (.inl ⟨rfl, rfl⟩) (by simp) (fun _ => by simp) hG'.out ?_ ?_
    · intro hv w3 cur3 _ _ hG3
      have hcell := hG3.box.cell
      have e : Words.nextO xs k = none := by rw [hno.out, hv]; rfl
      have hbw : Below w.heap.size w w3 := b1.trans (hG3.low.mono hb1)
      have h2 : ∀ w4, Drawn w3 w4 → Q (.returned (.tuple #[.slice none 0 0, .bool false])) w4 := fun w4 d4 => by
        have := H.out (.slice none 0 0) w4 (by unfold Words.nextW; rw [e]; exact Own.nil _ _ _) (hbw.trans (d4.below _))
        unfold Words.nextB at this
        rw [e] at this; exact this
      have h3 := Lib.hid h2
      clear h2 hG3 hv e
      go_wp2_with fail
      go_quiet (fail)
      go_wp2_with fail
      exact h3.out _ (Drawn.one w3 _)
    · intro z rest v w3 hv o3 bx3 b3
      have hz := Words.vis_mem_len (k := k.toNat) (b := xs) (r := xs.length) (pre := []) (over := false) (w := z) (by rw [hv]; simp)
      have hz1 : 1 ≤ z.length := by rw [hz]; simp; omega
      obtain ⟨ao, co, rfl, _, _, _⟩ := Own.form o3
      obtain ⟨g3, rfl, _, _⟩ := Own.head o3 (by rw [ints_len]; omega)
      have hcell := bx3.cell
      have e : Words.nextO xs k = some z := by rw [hno.out, hv]; rfl
      have hbw : Below w.heap.size w w3 := b1.trans (b3.mono hb1)
      have h2 : ∀ w4, Drawn w3 w4 → Q (.returned (.tuple #[.slice (some ⟨g3, 0, none⟩) (ints z).length co, .bool true])) w4 := fun w4 d4 => by
        have := H.out _ w4 (by unfold Words.nextW; rw [e]; exact Own.drawn (Own.mono o3 hb1) d4) (hbw.trans (d4.below _))
        unfold Words.nextB at this
        rw [e] at this; exact this
      have h3 := Lib.hid h2
      clear h2 hv e bx3
      go_wp2_with fail
      go_quiet (fail)
      go_wp2_with fail
      exact h3.out _ (Drawn.one w3 _)
end Go.Proofs.Ytdibmjijpdliaaa
/- The next necklace, as the reference seeks it. -/
set_option linter.unusedVariables false
namespace Go.Proofs.Ytdibmjijpdliaaa
open Go.RowKit

/-- The necklaces above a word are those behind it among all words. -/
theorem Words.vis_from {k n i : Nat} {xs : List Int} (hi : (Perms.wordsN k n)[i]? = some xs) : Words.vis k xs n [] false = ((Perms.wordsN k n).drop (i + 1)).filter Words.neckP := by
  rw [Words.vis_next]
  have hA := Perms.wordsN_asc (k := k) n
  have e : Perms.wordsN k n = (Perms.wordsN k n).take (i + 1) ++ (Perms.wordsN k n).drop (i + 1) := (List.take_append_drop _ _).symm
  conv => lhs; rw [e]
  rw [List.filter_append]
  have h1 : ((Perms.wordsN k n).take (i + 1)).filter (fun w => Words.neckP w && decide (Words.cmpL xs w < 0)) = [] := by
    rw [List.filter_eq_nil_iff]
    intro w hw
    obtain ⟨j, hj⟩ := List.getElem?_of_mem hw
    rw [List.getElem?_take] at hj
    split at hj
    · rename_i hji
      have : ¬ Words.cmpL xs w < 0 := by
        by_cases hj2 : j = i
        · subst hj2
          rw [hi] at hj
          cases hj
          rw [Words.cmpL_self]; omega
        · have := hA j i w xs (by omega) hj hi
          rw [Words.cmpL_neg]; omega
      simp [this]
    · cases hj
  rw [h1, List.nil_append]
  apply List.filter_congr
  intro w hw
  obtain ⟨j, hj⟩ := List.getElem?_of_mem hw
  rw [List.getElem?_drop] at hj
  have := hA i (i + 1 + j) xs w (by omega) hi hj
  simp [this]
theorem Words.okW_in {xs : List Int} {k : Int} (h : Words.nextOk xs k = true) : 1 ≤ k ∧ k ≤ 4 ∧ 1 ≤ xs.length ∧ xs.length ≤ 10 ∧ xs ∈ Perms.wordsN k.toNat xs.length := by
  unfold Words.nextOk at h
  simp only [Bool.and_eq_true, decide_eq_true_eq] at h
  obtain ⟨h1, ⟨h2, h3⟩, h4⟩ := h
  have hl := Words.okW_len h1
  refine ⟨h2, h3, hl.1, hl.2, Perms.wordsN_mem.2 ⟨rfl, fun x hx => ?_⟩⟩
  have a := Words.okW_all h1 x hx
  have b := of_decide_eq_true (List.all_eq_true.1 h4 x hx)
  omega
end Go.Proofs.Ytdibmjijpdliaaa
/- The necklaces one after the other. No program in sight. -/
set_option linter.unusedVariables false
namespace Go.Proofs.Ytdibmjijpdliaaa.Words

theorem powTo_pow {k : Int} (hk : 0 ≤ k) (m : Nat) : Nums.powTo k m = ((k.toNat ^ m : Nat) : Int) := by
  induction m with
  | zero => rfl
  | succ m ih =>
    show Nums.powTo k m * k = _
    rw [ih, Nat.pow_succ, Int.natCast_mul]
    congr 1
    omega
theorem pw_pow {k : Int} (hk : 0 ≤ k) (m : Nat) : Nums.pw k m = ((k.toNat ^ m : Nat) : Int) := by
  unfold Nums.pw
  rw [Int.toNat_natCast]
  exact powTo_pow hk m
theorem filter_after {α : Type} {P : α → Bool} {W : List α} {i j : Nat} {x : α} (hn : W.Nodup) (hW : W[j]? = some x) (hN : (W.filter P)[i]? = some x) : (W.drop (j + 1)).filter P = (W.filter P).drop (i + 1) := by
  have hPx : P x = true := (List.mem_filter.1 (List.mem_of_getElem? hN)).2
  obtain ⟨h1, h2⟩ := List.getElem?_eq_some_iff.1 hW
  have e : W = W.take j ++ x :: W.drop (j + 1) := by rw [← h2, ← List.drop_eq_getElem_cons h1, List.take_append_drop]
  have e2 : W.filter P = (W.take j).filter P ++ x :: (W.drop (j + 1)).filter P := by
    conv => lhs; rw [e]
    rw [List.filter_append, List.filter_cons, if_pos hPx]
  have hi : i = ((W.take j).filter P).length := by
    refine Perms.nodup_inj (hn.sublist List.filter_sublist) hN ?_
    rw [e2, List.getElem?_append_right (Nat.le_refl _), Nat.sub_self]; rfl
  rw [hi, e2, List.drop_append]
  simp
def necksN (k n : Nat) : List (List Int) := (Perms.wordsN k n).filter neckP
theorem necksN_mem {k n : Nat} {x : List Int} (h : x ∈ necksN k n) : x.length = n ∧ (∀ c ∈ x, 0 ≤ c ∧ c < k) ∧ neckP x = true := by
  obtain ⟨h1, h2⟩ := List.mem_filter.1 h
  obtain ⟨h3, h4⟩ := Perms.wordsN_mem.1 h1
  exact ⟨h3, h4, h2⟩
/-- The necklace behind the i-th is the next one. -/
theorem necksN_next {n i : Nat} {k : Int} {x : List Int} (hn1 : 1 ≤ n) (hn : n ≤ 10) (hk1 : 1 ≤ k) (hk4 : k ≤ 4) (hi : (necksN k.toNat n)[i]? = some x) : nextO x k = (necksN k.toNat n)[i + 1]? := by
  obtain ⟨h1, h2, h3⟩ := necksN_mem (List.mem_of_getElem? hi)
  have hok : nextOk x k = true := by
    unfold nextOk
    rw [okW_mk (by omega) (by omega) (fun c hc => by have := h2 c hc; omega), decide_eq_true ⟨hk1, hk4⟩, Bool.true_and, Bool.true_and, List.all_eq_true]
    intro c hc
    have := h2 c hc
    exact decide_eq_true (by omega)
  obtain ⟨j, hj⟩ := List.getElem?_of_mem (List.mem_filter.1 (List.mem_of_getElem? hi)).1
  unfold nextO
  rw [if_pos hok, h1, vis_from hj, filter_after (Perms.wordsN_asc n).nodup hj hi]
  show ((necksN k.toNat n).drop (i + 1)).head? = _
  rw [List.head?_drop]
theorem neckP_zeros (n : Nat) : neckP (List.replicate n 0) = true := by
  rw [neckP_iff]
  intro k hk hc
  rw [List.length_replicate] at hk
  have e : rot (List.replicate n (0 : Int)) k = List.replicate n 0 := by
    unfold rot
    rw [List.drop_replicate, List.take_replicate, List.replicate_append_replicate]
    congr 1
    omega
  rw [e, cmpL_self] at hc
  omega
theorem necksN_first {k : Nat} (hk : 1 ≤ k) (n : Nat) : (necksN k n)[0]? = some (List.replicate n 0) := by
  have h := Perms.wordsN_first k hk n
  unfold necksN
  cases hw : Perms.wordsN k n with
  | nil => rw [hw] at h; simp at h
  | cons w ws =>
    rw [hw] at h
    simp at h
    subst h
    rw [List.filter_cons, if_pos (neckP_zeros n)]
    rfl
end Go.Proofs.Ytdibmjijpdliaaa.Words
/- The number of a necklace. No program in sight. -/
set_option linter.unusedVariables false
namespace Go.Proofs.Ytdibmjijpdliaaa.Words

theorem ext_at {xs ys : List Int} (hl : xs.length = ys.length) (h : ∀ s, s < xs.length → at_ xs s = at_ ys s) : xs = ys := by
  apply List.ext_getElem? 
  intro i
  by_cases hi : i < xs.length
  · rw [at_some hi, at_some (by omega), h i hi]
  · rw [List.getElem?_eq_none (by omega), List.getElem?_eq_none (by omega)]
theorem rot_rot {xs : List Int} {t k : Nat} (ht : t ≤ xs.length) (hk : k ≤ xs.length) : rot (rot xs t) k = rot xs (if t + k < xs.length then t + k else t + k - xs.length) := by
  have l1 := rot_len xs ht
  have hk' : k ≤ (rot xs t).length := by omega
  have l2 := rot_len (rot xs t) hk'
  have hu : (if t + k < xs.length then t + k else t + k - xs.length) ≤ xs.length := by split <;> omega
  have l3 := rot_len xs hu
  apply ext_at (by omega)
  intro s hs
  rw [rot_at hk' (by omega), rot_at hu (by omega), l1]
  by_cases h1 : k + s < xs.length
  · rw [if_pos h1, rot_at ht (by omega)]
    by_cases h2 : t + k < xs.length
    · rw [if_pos h2]
      by_cases h3 : t + (k + s) < xs.length
      · rw [if_pos h3, if_pos (by omega)]; congr 1; omega
      · rw [if_neg h3, if_neg (by omega)]; congr 1; omega
    · rw [if_neg h2]
      rw [if_neg (by omega), if_pos (by omega)]; congr 1; omega
  · rw [if_neg h1, rot_at ht (by omega)]
    by_cases h2 : t + k < xs.length
    · rw [if_pos h2]
      rw [if_pos (by omega), if_neg (by omega)]; congr 1; omega
    · rw [if_neg h2]
      by_cases h3 : t + (k + s - xs.length) < xs.length
      · rw [if_pos h3, if_pos (by omega)]; congr 1; omega
      · rw [if_neg h3, if_neg (by omega)]; congr 1; omega
theorem lrW_neck {xs : List Int} (h : okW xs = true) : neckP (lrW xs) = true := by
  have hl := okW_len h
  have ht := lrTo_le xs xs.length
  have hm := lrTo_min xs xs.length (Nat.le_refl _)
  unfold lrW
  rw [if_pos h, neckP_iff, rot_len _ (by omega)]
  intro k hk hc
  rw [rot_rot (by omega) (by omega)] at hc
  have h2 := hm (if lrTo xs xs.length + k < xs.length then lrTo xs xs.length + k else lrTo xs xs.length + k - xs.length) (by split <;> omega)
  rw [less_cmp (by rw [rot_len _ (by split <;> omega), rot_len _ (by omega)])] at h2
  exact of_decide_eq_false h2 hc
theorem rot_mem {xs : List Int} {k : Nat} {x : Int} (h : x ∈ rot xs k) : x ∈ xs := by
  unfold rot at h
  rcases List.mem_append.1 h with h | h
  · exact List.mem_of_mem_drop h
  · exact List.mem_of_mem_take h
theorem lrW_mem {xs : List Int} {k : Int} (h : nextOk xs k = true) : lrW xs ∈ necksN k.toNat xs.length := by
  obtain ⟨h1, h2, h3, h4, h5⟩ := okW_in h
  have hok : okW xs = true := by unfold nextOk at h; simp only [Bool.and_eq_true] at h; exact h.1
  refine List.mem_filter.2 ⟨Perms.wordsN_mem.2 ⟨lrW_len hok, fun x hx => ?_⟩, lrW_neck hok⟩
  unfold lrW at hx
  rw [if_pos hok] at hx
  exact (Perms.wordsN_mem.1 h5).2 x (rot_mem hx)
def numO (xs : List Int) (k : Int) : Int := if nextOk xs k = true ∧ Nums.pw k xs.length ≤ 1024 then Perms.idx (necksN k.toNat xs.length) (lrW xs) else -1
theorem necksN_asc (k n : Nat) : Perms.Asc (necksN k n) := (Perms.wordsN_asc n).filter _
theorem necksN_len {k n : Nat} (h : k ^ n ≤ 1024) : (necksN k n).length ≤ 1024 := by
  have := List.length_filter_le neckP (Perms.wordsN k n)
  rw [Perms.wordsN_len] at this
  exact Nat.le_trans this h
/-- A necklace lies before another one exactly if its number is less. -/
theorem necksN_less {k n i j : Nat} {x y : List Int} (hi : (necksN k n)[i]? = some x) (hj : (necksN k n)[j]? = some y) : less x y = decide (i < j) := by
  have hx := (necksN_mem (List.mem_of_getElem? hi)).1
  have hy := (necksN_mem (List.mem_of_getElem? hj)).1
  rw [less_cmp (by omega)]
  have hA := necksN_asc k n
  by_cases h : i < j
  · simp [h, hA i j x y h hi hj]
  · simp only [h, decide_false, decide_eq_false_iff_not]
    by_cases e : i = j
    · subst e
      rw [hi] at hj
      cases hj
      rw [cmpL_self]; omega
    · have := hA j i y x (by omega) hj hi
      rw [cmpL_neg]; omega
end Go.Proofs.Ytdibmjijpdliaaa.Words
/- The necklace of a number. -/
set_option linter.unusedVariables false
namespace Go.Proofs.Ytdibmjijpdliaaa
open Go.RowKit

def Words.smallN (n k : Int) : Bool := decide (1 ≤ n ∧ n ≤ 10) && (decide (1 ≤ k ∧ k ≤ 4) && decide (Nums.pw k n ≤ 1024))
def Words.neckO (n k i : Int) : Option (List Int) := if Words.smallN n k = true ∧ 0 ≤ i then (Words.necksN k.toNat n.toNat)[i.toNat]? else none
def Words.neckW (n k i : Int) : List Int := (Words.neckO n k i).getD []
def Words.neckIs (n k i : Int) : Bool := (Words.neckO n k i).isSome
theorem Words.neckO_len {n k i : Int} {x : List Int} (h : Words.neckO n k i = some x) : (x.length : Int) = n := by
  unfold Words.neckO at h
  split at h
  · rename_i hc
    have hs := hc.1
    unfold Words.smallN at hs
    simp only [Bool.and_eq_true, decide_eq_true_eq] at hs
    have := (Words.necksN_mem (List.mem_of_getElem? h)).1
    omega
  · cases h
set_option maxHeartbeats 1600000 in
theorem NecklaceAt_i {n k i : Int} {w : World} {Q : Ending → World → Prop}
    (hQ : ∀ v w', OwnInts w' w.heap.size v (Words.neckW n k i) → Below w.heap.size w w' → Q (.returned (.tuple #[v, .bool (Words.neckIs n k i)])) w') :
    Calls Try.prog 32 #[.int .i64 n, .int .i64 k, .int .i64 i] w Q := by
  have H := Lib.hid hQ; clear hQ
  have none' : ∀ w', Below w.heap.size w w' → Words.neckO n k i = none → Q (.returned (.tuple #[.slice none 0 0, .bool false])) w' := fun w' hb e => by
    have := H.out (.slice none 0 0) w' (by unfold Words.neckW; rw [e]; exact Own.nil _ _ _) hb
    unfold Words.neckIs at this
    rw [e] at this; exact this
  have none'' := Lib.hid none'
  clear none'
  by_cases hn : 1 ≤ n ∧ n ≤ 10
  rotate_left
  · have hd : Hid (decide (1 ≤ n ∧ n ≤ 10) = false) := Lib.hid (decide_eq_false hn)
    have e : Hid (Words.neckO n k i = none) := Lib.hid (by unfold Words.neckO Words.smallN; rw [hd.out]; simp)
    clear hn
    go_enter Try.func32, Try.ntmps32
    go_wp2_with (go_at_call 71; refine isLength_i ?_; rw [hd.out])
    all_goals exact none''.out _ (Below.refl _ _) e.out
  have hd : Hid (decide (1 ≤ n ∧ n ≤ 10) = true) := Lib.hid (decide_eq_true hn)
  obtain ⟨hn1, hn2⟩ := hn
  have hsm : Hid (Words.smallN n k = (decide (1 ≤ k ∧ k ≤ 4) && decide (Nums.pw k n ≤ 1024))) := Lib.hid (by unfold Words.smallN; rw [hd.out, Bool.true_and])
  go_enter Try.func32, Try.ntmps32
  go_wp2_with (go_at_call 71; refine isLength_i ?_; rw [hd.out])
  refine isSmall_i (by omega) hn2 ?_
  rw [← hsm.out]
  by_cases hs0 : Words.smallN n k = true
  rotate_left
  · have hf : Hid (Words.smallN n k = false) := Lib.hid (by simpa using hs0)
    have e : Hid (Words.neckO n k i = none) := Lib.hid (by unfold Words.neckO; rw [if_neg (fun h => hs0 h.1)])
    rw [hf.out]
    clear hs0
    go_wp2_with fail
    exact none''.out _ (Below.refl _ _) e.out
  have hs := Lib.hid hs0
  have hs2 := hs0
  unfold Words.smallN at hs2
  simp only [Bool.and_eq_true, decide_eq_true_eq] at hs2
  obtain ⟨_, ⟨hk1, hk4⟩, _⟩ := hs2
  obtain ⟨m, rfl⟩ : ∃ m : Nat, n = m := ⟨n.toNat, by omega⟩
  rw [hs.out]
  clear hs0
  go_wp2_with fail
  refine necklaces_i hk1 hk4 (by omega) (by omega) ?_
  intro v1 w1 o1 b1
  obtain ⟨ao, co, rfl, lo, _, _⟩ := o1.form
  have hno : Hid (Words.neckO m k i = if 0 ≤ i then (Words.necks k m)[i.toNat]? else none) := Lib.hid (by
    unfold Words.neckO
    rw [Int.toNat_natCast]
    by_cases h0 : 0 ≤ i
    · rw [if_pos ⟨hs.out, h0⟩, if_pos h0]; rfl
    · rw [if_neg (fun h => h0 h.2), if_neg h0])
  by_cases h0 : 0 ≤ i
  · by_cases hi : i < (Words.necks k m).length
    · obtain ⟨j, rfl⟩ : ∃ j : Nat, i = j := ⟨i.toNat, by omega⟩
      obtain ⟨g, rfl, _, _⟩ := o1.head (by omega)
      obtain ⟨u, xs, hx, hc, hu, _⟩ := o1.cell (k := j) (by omega)
      obtain ⟨au, cu, rfl, _, _, _⟩ := Own.form hu
      have e : Words.neckO m k j = some xs := by rw [hno.out, if_pos h0, Int.toNat_natCast]; exact hx.out
      have h2 := H.out _ w1 (by unfold Words.neckW; rw [e]; exact hu) b1
      unfold Words.neckIs at h2
      rw [e] at h2
      have h3 := Lib.hid h2
      clear h2 e
      go_wp2_with fail
      exact h3.out
    · have e : Hid (Words.neckO m k i = none) := Lib.hid (by rw [hno.out, if_pos h0, List.getElem?_eq_none (by omega)])
      go_wp2_with fail
      exact none''.out _ b1 e.out
  · have e : Hid (Words.neckO m k i = none) := Lib.hid (by rw [hno.out, if_neg h0])
    go_wp2_with fail
    exact none''.out _ b1 e.out
end Go.Proofs.Ytdibmjijpdliaaa
/- Words of Lyndon and bracelets among all words. No program in sight. -/
set_option linter.unusedVariables false
namespace Go.Proofs.Ytdibmjijpdliaaa.Words

def enumW (P : List Int → Bool) (n : Nat) (k : Int) : List (List Int) := (Perms.wordsN k.toNat n).filter P
def enumO (P : List Int → Bool) (n k : Int) : List (List Int) := if smallN n k = true then enumW P n.toNat k else []
theorem words_ok {n : Nat} {k : Int} (hn1 : 1 ≤ n) (hn : n ≤ 10) (hk1 : 1 ≤ k) (hk : k ≤ 4) {x : List Int} (hx : x ∈ Perms.wordsN k.toNat n) : okW x = true := by
  obtain ⟨h1, h2⟩ := Perms.wordsN_mem.1 hx
  exact okW_mk (by omega) (by omega) (fun c hc => by have := h2 c hc; omega)
theorem enum_lyn {n : Nat} {k : Int} (hn1 : 1 ≤ n) (hn : n ≤ 10) (hk1 : 1 ≤ k) (hk : k ≤ 4) : (necks k n).filter (fun xs => !(fun xs => !decide (perI xs = n)) xs) = enumW lynB n k := by
  unfold necks enumW
  rw [List.filter_filter]
  apply List.filter_congr
  intro x hx
  have hok := words_ok hn1 hn hk1 hk hx
  have hl := (Perms.wordsN_mem.1 hx).1
  unfold lynB
  rw [neckB_P hok, hl, Bool.not_not, Bool.and_comm]
theorem brB_neck {x : List Int} (hok : okW x = true) (h : brB x = true) : neckP x = true := by
  unfold brB at h
  rw [hok, Bool.true_and, decide_eq_true_eq] at h
  unfold brW at h
  rw [if_pos hok] at h
  split at h
  · rw [← h]; exact lrW_neck (by rw [okW_reverse]; exact hok)
  · rw [← h]; exact lrW_neck hok
theorem enum_brac {n : Nat} {k : Int} (hn1 : 1 ≤ n) (hn : n ≤ 10) (hk1 : 1 ≤ k) (hk : k ≤ 4) : (necks k n).filter (fun xs => !(fun xs => !brB xs) xs) = enumW brB n k := by
  unfold necks enumW
  rw [List.filter_filter]
  apply List.filter_congr
  intro x hx
  have hok := words_ok hn1 hn hk1 hk hx
  rw [Bool.not_not]
  cases h : brB x with
  | false => rfl
  | true => rw [brB_neck hok h]; rfl
end Go.Proofs.Ytdibmjijpdliaaa.Words
