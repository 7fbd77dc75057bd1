/-
  More on slices of slices.
-/
import Derived.Test.YtdjdagcgodpgdaaGreatMemT
set_option linter.unusedVariables false
namespace Go.Proofs.YtdjdagcgodpgdaaGreat
open Go.RowKit

theorem Rows.append {w : World} {B B2 E E2 : Nat} {us us2 : List Value} {xss yss : List (List Int)} (h : Rows w B E us xss) (h2 : Rows w B2 E2 us2 yss) (hB : B ≤ B2) (hE : E ≤ B2) (hE2 : B2 ≤ E2) : Rows w B E2 (us ++ us2) (xss ++ yss) := by
  obtain ⟨h3, h4, h5⟩ := h
  obtain ⟨k3, k4, k5⟩ := h2
  refine ⟨by simp [h3, k3], fun k zs hk => ?_, fun i j z z' hij hz hz' => ?_⟩
  · by_cases e : k < xss.length
    · rw [List.getElem?_append_left e] at hk
      obtain ⟨z, a, b, c⟩ := h4 k zs hk
      exact ⟨z, by rw [List.getElem?_append_left (by omega)]; exact a, b, c.mono (by omega)⟩
    · rw [List.getElem?_append_right (by omega)] at hk
      obtain ⟨z, a, b, c⟩ := k4 _ zs hk
      exact ⟨z, by rw [List.getElem?_append_right (by omega), h3]; exact a, Own.mono b hB, c⟩
  · by_cases ej : j < us.length
    · rw [List.getElem?_append_left (by omega)] at hz
      rw [List.getElem?_append_left ej] at hz'
      exact h5 i j z z' hij hz hz'
    · rw [List.getElem?_append_right (by omega)] at hz'
      by_cases ei : i < us.length
      · rw [List.getElem?_append_left ei] at hz
        obtain ⟨z2, a, _, c⟩ := h4 i _ (List.getElem?_eq_getElem (show i < xss.length by omega))
        rw [hz] at a
        obtain rfl := Option.some.inj a
        obtain ⟨z3, a3, b3, c3⟩ := k4 (j - us.length) _ (List.getElem?_eq_getElem (show j - us.length < yss.length by have := (List.getElem?_eq_some_iff.1 hz').1; omega))
        rw [hz'] at a3
        obtain rfl := Option.some.inj a3
        unfold apart
        cases hb : z.ownBlock with
        | none => exact .inl rfl
        | some b =>
          refine .inr fun e => ?_
          have h1 := c b hb
          have h2 := (Own.lt b3 e.symm).1
          omega
      · rw [List.getElem?_append_right (by omega)] at hz
        exact k5 _ _ z z' (by omega) hz hz'
theorem Rows.one {w : World} {B E : Nat} {us : List Value} {xss : List (List Int)} (h : Rows w B E us xss) : ∀ y ∈ us, y.oneCell' = true := fun y hy => by
  obtain ⟨k, hk⟩ := List.getElem?_of_mem hy
  have hl := (List.getElem?_eq_some_iff.1 hk).1
  obtain ⟨u, xs, hu, _, hou, _⟩ := h.get (k := k) (by have := h.1; omega)
  obtain ⟨au, cu, rfl, _, _, _⟩ := Own.form hou
  rw [hu.out] at hk
  obtain rfl := Option.some.inj hk
  rfl
/-- 'append(s, rows...)': s is the call's own, the rows may be anyone's. -/
theorem app_outer {w : World} {ops : Array Oper} {rest : List Oper} {o : Oper} {a : Act} {Q : Exit → Act → World → Prop} (hg : o.guard = none) (s x : Operand) (hop : o.op = .call { callee := .builtin .append, args := #[s, x], argTypes := #[22, 22] })
    {B : Nat} {v u : Value} {us ys : List Value} (hs : a.eval s = v) (hown : Own w B 36 v us) (hx : a.eval x = u) (hrow : RowAt w u ys) (h1 : ∀ y ∈ ys, y.oneCell' = true)
    (hn : us.length + ys.length ≤ 1099511627776) (hB : B ≤ w.heap.size)
    (hK : ∀ v' w', Own w' B 36 v' (us ++ ys) → w.grownBy w' v.ownBlock → wpList Tryz.prog ops Q rest (a.put o.dst v') w') :
    wpList Tryz.prog ops Q (o :: rest) a w :=
  app_row 22 36 (.slice none 0 0) 24 Tryz.infoInts Tryz.underlying22 rfl hg s x hop hs hown hx hrow h1 (by omega) (by unfold maxLen; omega) hB hK
theorem addr_add (b f i : Nat) : Addr.add ⟨b, f, none⟩ i = ⟨b, f + i, none⟩ := by
  unfold Addr.add
  by_cases h : i = 0
  · rw [if_pos h, h]; rfl
  · rw [if_neg h]
theorem RowsAt.one {w : World} {vs : List Value} {xss : List (List Int)} (hl : vs.length = xss.length) (h : ∀ (k : Nat) (xs : List Int), xss[k]? = some xs → ∃ u, vs[k]? = some u ∧ IntsAt w u xs) : ∀ y ∈ vs, y.oneCell' = true := fun y hy => by
  obtain ⟨k, hk⟩ := List.getElem?_of_mem hy
  have hkl := (List.getElem?_eq_some_iff.1 hk).1
  obtain ⟨u, hu, hi⟩ := h k _ (List.getElem?_eq_getElem (show k < xss.length by omega))
  rw [hk] at hu
  obtain rfl := Option.some.inj hu
  obtain ⟨_, _, rfl, _⟩ := hi.form
  rfl
theorem row_one (w : World) (v : Value) (T : TypeId) : RowAt (w.alloc (.cells #[v] T)) (.slice (some ⟨w.heap.size, 0, none⟩) 1 1) [v] := by
  refine ⟨some ⟨w.heap.size, 0, none⟩, 1, rfl, Nat.le_refl _, by unfold maxLen; omega, (fun h => by cases h), ?_⟩
  intro k x hk
  cases k with
  | zero =>
    simp at hk; subst hk
    exact ⟨w.heap.size, 0, rfl, cell_new w v T⟩
  | succ k => simp at hk
/-- A variable on the heap, of one cell. -/
def BoxAt (w : World) (b : Nat) (T : TypeId) (v : Value) : Prop := w.heap[b]? = some (.cells #[v] T (0, 0))
theorem BoxAt.cell {w : World} {b : Nat} {T : TypeId} {v : Value} (h : BoxAt w b T v) : w.cell? ⟨b, 0, none⟩ = some v := by
  rw [cell_of_row w b 0 _ _ _ h]; rfl
theorem BoxAt.frozen {w : World} {b : Nat} {T : TypeId} {v : Value} (h : BoxAt w b T v) : w.frozen? ⟨b, 0, none⟩ = false := by
  unfold BoxAt at h
  simp [World.frozen?, h]
theorem BoxAt.set {w : World} {b : Nat} {T : TypeId} {v : Value} (h : BoxAt w b T v) (u : Value) : BoxAt (w.setCell ⟨b, 0, none⟩ u) b T u := by
  unfold BoxAt at h ⊢
  simp [World.setCell, Array.getElem?_modify, h]
theorem BoxAt.lt {w : World} {b : Nat} {T : TypeId} {v : Value} (h : BoxAt w b T v) : b < w.heap.size := (Array.getElem?_eq_some_iff.1 h).1
theorem BoxAt.below {w w' : World} {b : Nat} {T : TypeId} {v : Value} (h : BoxAt w b T v) (hb : Below w.heap.size w w') : BoxAt w' b T v := by
  unfold BoxAt at h ⊢
  rw [hb.block b (Array.getElem?_eq_some_iff.1 h).1]; exact h
theorem BoxAt.drawn {w w' : World} {b : Nat} {T : TypeId} {v : Value} (h : BoxAt w b T v) (hd : Drawn w w') : BoxAt w' b T v := by
  unfold BoxAt at h ⊢
  rw [hd.heap]; exact h
theorem BoxAt.grown {w w' : World} {b : Nat} {T : TypeId} {v : Value} {row : Option Nat} (h : BoxAt w b T v) (hg : w.grownBy w' row) (hr : row ≠ some b) : BoxAt w' b T v := by
  unfold BoxAt at h ⊢
  rw [hg.block b (Array.getElem?_eq_some_iff.1 h).1 (fun e => hr e.symm)]; exact h
/-- A box holds another type than a row of the call's own. -/
theorem BoxAt.apart {w : World} {b B : Nat} {T T' : TypeId} {v u : Value} {xs : List Value} (h : BoxAt w b T v) (ho : Own w B T' u xs) (hT : T ≠ T') : u.ownBlock ≠ some b := by
  intro e
  obtain ⟨cur, hc⟩ := ho.block e
  unfold BoxAt at h
  rw [h] at hc
  cases hc
  exact hT rfl
end Go.Proofs.YtdjdagcgodpgdaaGreat
