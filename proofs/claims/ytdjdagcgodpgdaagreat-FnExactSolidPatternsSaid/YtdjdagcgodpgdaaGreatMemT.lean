/-
  Slices of slices, in two parts: the outer row, and what its values are.
-/
import Derived.Test.YtdjdagcgodpgdaaGreatMemS
import Derived.ArgAppend
import Derived.Deep.DeepAppendRoom
set_option linter.unusedVariables false
namespace Go.Proofs.YtdjdagcgodpgdaaGreat
open Go.RowKit

/-- The values us are slices of integers of the call's own, that hold xss: each lies in a block of its own, from B up to E. -/
def Rows (w : World) (B E : Nat) (us : List Value) (xss : List (List Int)) : Prop :=
  us.length = xss.length ∧ (∀ (k : Nat) (xs : List Int), xss[k]? = some xs → ∃ u, us[k]? = some u ∧ OwnInts w B u xs ∧ inB u E) ∧
    ∀ (i j : Nat) (u u' : Value), i < j → us[i]? = some u → us[j]? = some u' → apart u u'
theorem OwnRows.parts {w : World} {B E : Nat} {v : Value} {xss : List (List Int)} (h : OwnRows w B E v xss) : ∃ us, Own w B 36 v us ∧ inB v E ∧ Rows w B E us xss := by
  obtain ⟨us, h1, h2, h3, h4, h5⟩ := h
  exact ⟨us, h1, h2, h3, h4, h5⟩
theorem Rows.whole {w : World} {B E : Nat} {v : Value} {us : List Value} {xss : List (List Int)} (h : Rows w B E us xss) (ho : Own w B 36 v us) (hi : inB v E) : OwnRows w B E v xss :=
  ⟨us, ho, hi, h.1, h.2.1, h.2.2⟩
theorem Rows.kept {w w' : World} {B E : Nat} {us : List Value} {xss : List (List Int)} (h : Rows w B E us xss) (hw : ∀ k, B ≤ k → k < E → k < w.heap.size → w'.heap[k]? = w.heap[k]?) : Rows w' B E us xss :=
  ⟨h.1, fun k xs hk => by
    obtain ⟨u, a, b, c⟩ := h.2.1 k xs hk
    exact ⟨u, a, Own.kept b fun q hq => hw q (Own.lt b hq).1 (c q hq) (Own.lt b hq).2, c⟩, h.2.2⟩
theorem Rows.below {w w' : World} {B E : Nat} {us : List Value} {xss : List (List Int)} (h : Rows w B E us xss) (hb : Below w.heap.size w w') : Rows w' B E us xss := h.kept fun k _ _ hk => hb.block k hk
theorem Rows.drawn {w w' : World} {B E : Nat} {us : List Value} {xss : List (List Int)} (h : Rows w B E us xss) (hd : Drawn w w') : Rows w' B E us xss := h.kept fun k _ _ _ => by rw [hd.heap]
/-- A change of the outer row, or of a block below or above. -/
theorem Rows.grown {w w' : World} {B E : Nat} {us : List Value} {xss : List (List Int)} {row : Option Nat} (h : Rows w B E us xss) (hg : w.grownBy w' row) (hr : ∀ k, row = some k → k < B ∨ E ≤ k) : Rows w' B E us xss :=
  h.kept fun k h1 h2 h3 => hg.block k h3 fun e => by have := hr k e.symm; omega
/-- A change of a block that holds other things than integers. -/
theorem Rows.outer {w w' : World} {B E : Nat} {us : List Value} {xss : List (List Int)} (h : Rows w B E us xss) {B' : Nat} {v : Value} {zs : List Value} (ho : Own w B' 36 v zs) (hg : w.grownBy w' v.ownBlock) : Rows w' B E us xss :=
  ⟨h.1, fun k xs hk => by
    obtain ⟨u, a, b, c⟩ := h.2.1 k xs hk
    exact ⟨u, a, Own.grown b hg (own_types ho b (by decide)), c⟩, h.2.2⟩
theorem Rows.mono {w : World} {B B' E E' : Nat} {us : List Value} {xss : List (List Int)} (h : Rows w B E us xss) (hB : B' ≤ B) (hE : E ≤ E') : Rows w B' E' us xss :=
  ⟨h.1, fun k xs hk => by
    obtain ⟨u, a, b, c⟩ := h.2.1 k xs hk
    exact ⟨u, a, Own.mono b hB, c.mono hE⟩, h.2.2⟩
theorem Rows.tight {w : World} {B E : Nat} {us : List Value} {xss : List (List Int)} (h : Rows w B E us xss) : Rows w B w.heap.size us xss :=
  ⟨h.1, fun k xs hk => by
    obtain ⟨u, a, b, c⟩ := h.2.1 k xs hk
    exact ⟨u, a, b, Own.inBlk b⟩, h.2.2⟩
theorem OwnInts.under {w w' : World} {B E : Nat} {v : Value} {xs : List Int} (h : OwnInts w B v xs) (hi : inB v E) (hb : Below E w w') : OwnInts w' B v xs := Own.kept h fun k hk => hb.block k (hi k hk)
theorem OwnRows.under {w w' : World} {B E : Nat} {v : Value} {xss : List (List Int)} (h : OwnRows w B E v xss) (hb : Below E w w') : OwnRows w' B E v xss := h.kept fun k _ hk _ => hb.block k hk
theorem Rows.under {w w' : World} {B E : Nat} {us : List Value} {xss : List (List Int)} (h : Rows w B E us xss) (hb : Below E w w') : Rows w' B E us xss := h.kept fun k _ hk _ => hb.block k hk
theorem Rows.nil (w : World) (B E : Nat) : Rows w B E [] [] := ⟨rfl, fun k xs h => by simp at h, fun i j u u' _ h => by simp at h⟩
theorem Rows.get {w : World} {B E : Nat} {us : List Value} {xss : List (List Int)} (h : Rows w B E us xss) {k : Nat} (hk : k < xss.length) :
    ∃ u xs, Hid (us[k]? = some u) ∧ Hid (xss[k]? = some xs) ∧ OwnInts w B u xs ∧ inB u E := by
  obtain ⟨u, a, b, c⟩ := h.2.1 k _ (List.getElem?_eq_getElem hk)
  exact ⟨u, _, Lib.hid a, Lib.hid (List.getElem?_eq_getElem hk), b, c⟩
theorem Rows.push {w : World} {B E : Nat} {us : List Value} {xss : List (List Int)} (h : Rows w B E us xss) {u : Value} {xs : List Int} (hu : OwnInts w B u xs) (hf : ∀ b, u.ownBlock = some b → E ≤ b) : Rows w B w.heap.size (us ++ [u]) (xss ++ [xs]) := by
  obtain ⟨h3, h4, h5⟩ := h
  refine ⟨by simp [h3], fun k zs hk => ?_, fun i j z z' hij hz hz' => ?_⟩
  · by_cases e : k < xss.length
    · rw [List.getElem?_append_left e] at hk
      obtain ⟨z, a, b, c⟩ := h4 k zs hk
      exact ⟨z, by rw [List.getElem?_append_left (by omega)]; exact a, b, Own.inBlk b⟩
    · have hk' := (List.getElem?_eq_some_iff.1 hk).1
      rw [List.length_append, List.length_singleton] at hk'
      obtain rfl : k = xss.length := by omega
      rw [List.getElem?_append_right (Nat.le_refl _), Nat.sub_self] at hk
      simp at hk
      subst hk
      exact ⟨u, by rw [← h3, List.getElem?_append_right (Nat.le_refl _), Nat.sub_self]; rfl, hu, Own.inBlk hu⟩
  · by_cases ej : j < us.length
    · rw [List.getElem?_append_left (by omega)] at hz
      rw [List.getElem?_append_left ej] at hz'
      exact h5 i j z z' hij hz hz'
    · have hj' := (List.getElem?_eq_some_iff.1 hz').1
      rw [List.length_append, List.length_singleton] at hj'
      obtain rfl : j = us.length := by omega
      rw [List.getElem?_append_right (Nat.le_refl _), Nat.sub_self] at hz'
      simp at hz'
      subst hz'
      rw [List.getElem?_append_left hij] at hz
      obtain ⟨z2, a, _, c⟩ := h4 i _ (List.getElem?_eq_getElem (show i < xss.length by omega))
      rw [hz] at a
      obtain rfl := Option.some.inj a
      unfold apart
      cases hb : z.ownBlock with
      | none => exact .inl rfl
      | some b =>
        refine .inr fun e => ?_
        have a := hf b e.symm
        have c := c b hb
        omega
def nilV : Value := Value.slice (Option.none) 0 0
/-- Some of the rows, in their order. -/
theorem Rows.pick {w : World} {B E : Nat} {us : List Value} {xss : List (List Int)} (h : Rows w B E us xss) {is : List Nat} (hp : is.Pairwise (· < ·)) (hl : ∀ i ∈ is, i < xss.length) :
    Rows w B E (is.map fun i => us.getD i nilV) (is.map fun i => xss.getD i []) := by
  obtain ⟨h3, h4, h5⟩ := h
  refine ⟨by simp, fun k xs hk => ?_, fun i j z z' hij hz hz' => ?_⟩
  · rw [List.getElem?_map, Option.map_eq_some_iff] at hk
    obtain ⟨i, hi, rfl⟩ := hk
    have hil := hl i (List.mem_of_getElem? hi)
    obtain ⟨u, a, b, c⟩ := h4 i _ (List.getElem?_eq_getElem hil)
    have e : xss.getD i [] = xss[i] := by simp [List.getD, List.getElem?_eq_getElem hil]
    refine ⟨u, ?_, by rw [e]; exact b, c⟩
    rw [List.getElem?_map, hi]
    simp [List.getD, a]
  · rw [List.getElem?_map, Option.map_eq_some_iff] at hz hz'
    obtain ⟨a, ha, rfl⟩ := hz
    obtain ⟨b, hb, rfl⟩ := hz'
    have hal := hl a (List.mem_of_getElem? ha)
    have hbl := hl b (List.mem_of_getElem? hb)
    have hab : a < b := by
      rw [List.pairwise_iff_getElem] at hp
      obtain ⟨x1, rfl⟩ := List.getElem?_eq_some_iff.1 ha
      obtain ⟨x2, rfl⟩ := List.getElem?_eq_some_iff.1 hb
      exact hp i j x1 x2 hij
    refine h5 a b _ _ hab ?_ ?_
    · simp [List.getD, List.getElem?_eq_getElem (show a < us.length by omega)]
    · simp [List.getD, List.getElem?_eq_getElem (show b < us.length by omega)]
theorem pick_step {α : Type} {l : List α} {d : α} {f : α → Bool} {is : List Nat} {j : Nat} {x : α} (h : (is.map fun i => l.getD i d) = (l.take j).filter f) (hx : l[j]? = some x) :
    ((if f x = true then is ++ [j] else is).map fun i => l.getD i d) = (l.take (j + 1)).filter f := by
  rw [List.take_add_one, hx, List.filter_append]
  by_cases hf : f x = true
  · rw [if_pos hf, List.map_append, h]
    simp [hf, List.getD, hx]
  · rw [if_neg hf, h]
    simp [hf]
/-- 'append(s, row)' of one row: s is the call's own, the row may be anyone's. -/
theorem app_val {w : World} {ops : Array Oper} {rest : List Oper} {o : Oper} {a : Act} {Q : Exit → Act → World → Prop} (hg : o.guard = none) (s x : Operand) (hop : o.op = .call { callee := .builtin .append, args := #[s, x], argTypes := #[22, 22] })
    {B g n cap : Nat} {u : Value} {us : List Value} (hs : a.eval s = .slice (some ⟨g, 0, none⟩) n cap) (hown : Own w B 36 (.slice (some ⟨g, 0, none⟩) n cap) us) {ad : Addr} {c : Nat} (hx : a.eval x = .slice (some ad) 1 c) (hu : w.cell? ad = some u)
    (h1 : u.oneCell' = true) (hn : us.length + 1 ≤ 1099511627776) (hB : B ≤ w.heap.size)
    (hK : ∀ g' cap' w', Own w' B 36 (.slice (some ⟨g', 0, none⟩) (n + 1) cap') (us ++ [u]) → w.grownBy w' (some g) → (g' = g ∨ w.heap.size ≤ g') → wpList Tryz.prog ops Q rest (a.put o.dst (.slice (some ⟨g', 0, none⟩) (n + 1) cap')) w') :
    wpList Tryz.prog ops Q (o :: rest) a w := by
  obtain ⟨i0, hi, hz0, hz1, hz2⟩ := info_parts Tryz.infoInts
  obtain rfl := hown.len
  have hc1 : ∀ (j : Nat) (y : Value), [u][j]? = some y → w.cell? (ad.add j) = some y := by
    intro j y hy
    match j, hy with
    | 0, hy =>
      simp at hy; subst hy
      have : ad.add 0 = ad := by unfold Addr.add; split <;> simp_all
      rw [this]; exact hu
  have ho1 : ∀ y ∈ [u], y.oneCell' = true := by intro y hy; simp at hy; subst hy; exact h1
  by_cases hr : us.length + 1 ≤ cap
  · refine wpList_append_own_spare w hg s x 22 hop B 36 i0 1 Tryz.underlying22 hi hz1 g us.length cap us hs hown ad 1 c [u] hx rfl hc1 ho1 hr ?_
    intro w' h2 h3
    have e : (us ++ [u]).length = us.length + 1 := by simp
    exact hK g cap w' (by unfold Own; rw [e]; exact h2) h3 (.inl rfl)
  · refine wpList_append_arg w hg s x 22 hop 36 i0 (.slice none 0 0) 1 24 Tryz.underlying22 hi hz0 hz1 hz2 rfl (by decide) g 0 us.length cap us hs (by simp) (fun j y hy => by rw [Nat.zero_add]; exact hown.cell hy) ad 1 c [u] hx rfl hc1 ho1
      (fun h => absurd h hr) (by unfold maxLen; omega) (by omega) (fun h => absurd h hr) ?_
    intro _ v' w' h2 h3
    have h2' : Own w' w.heap.size 36 v' (us ++ [u]) := by unfold Own; rw [List.length_append]; exact h2
    obtain ⟨ao, c', rfl, _, _, _⟩ := Own.form h2'
    obtain ⟨g', rfl, hg1, hg2⟩ := h2'.head (by simp)
    have e : (us ++ [u]).length = us.length + 1 := by simp
    rw [e] at h2'
    have h4 := hK g' c' w' (h2'.mono hB) ⟨h3.os, h3.tape, h3.output, h3.size, fun k hk _ => h3.block k hk (by simp)⟩ (.inr hg1)
    rw [e]
    exact h4
/-- '[][]int{}', its outer row. -/
theorem own_outer_empty (w : World) : Own (w.alloc (.cells #[] 36)) w.heap.size 36 (.slice (some ⟨w.heap.size, 0, none⟩) 0 0) [] :=
  World.ownsRow_lit (size := 1) w #[] 0 (Nat.le_refl _) (by unfold maxLen; omega) rfl
/-- '[][]int{row}'. -/
theorem own_rows_one {w : World} {B : Nat} {u : Value} {xs : List Int} (hu : OwnInts w B u xs) (hB : B ≤ w.heap.size) : OwnRows (w.alloc (.cells #[u] 36)) B (w.heap.size + 1) (.slice (some ⟨w.heap.size, 0, none⟩) 1 1) [xs] :=
  ⟨[u], Own.mono (World.ownsRow_lit (size := 1) w #[u] 1 (Nat.le_refl _) (by unfold maxLen; omega) rfl) hB, (fun k hk => by cases hk; exact Nat.lt_succ_self _), rfl,
    (fun k zs h => by
      match k, h with
      | 0, h =>
        simp at h; subst h
        exact ⟨u, rfl, OwnInts.below hu (below_alloc w _), fun q hq => Nat.lt_succ_of_lt (OwnInts.lt hu hq).2⟩), fun i j z z' hij h h' => by
      have := (List.getElem?_eq_some_iff.1 h').1
      simp at this
      omega⟩
end Go.Proofs.YtdjdagcgodpgdaaGreat
