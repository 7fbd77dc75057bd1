/-
  Slices of arrays of three integers.
-/
import Derived.Test.YtdjdagcgodpgdaaGreatSolG
set_option linter.unusedVariables false
namespace Go.Proofs.YtdjdagcgodpgdaaGreat
open Go.RowKit

def cells3 (t : V3) : List Value := [.int .i64 t.1, .int .i64 t.2.1, .int .i64 t.2.2]
theorem flat3_get : ∀ (F : List V3) (k : Nat) (t : V3), F[k]? = some t → (F.flatMap cells3)[k * 3]? = some (.int .i64 t.1) ∧ (F.flatMap cells3)[k * 3 + 1]? = some (.int .i64 t.2.1) ∧ (F.flatMap cells3)[k * 3 + 2]? = some (.int .i64 t.2.2)
  | [], k, t, h => by simp at h
  | x :: F, 0, t, h => by
    simp at h
    subst h
    simp [cells3]
  | x :: F, k + 1, t, h => by
    rw [List.getElem?_cons_succ] at h
    have ih := flat3_get F k t h
    have e : ∀ m, (List.flatMap cells3 (x :: F))[m + 3]? = (F.flatMap cells3)[m]? := fun m => by simp [cells3]
    refine ⟨?_, ?_, ?_⟩
    · rw [show (k + 1) * 3 = k * 3 + 3 by omega, e]; exact ih.1
    · rw [show (k + 1) * 3 + 1 = k * 3 + 1 + 3 by omega, e]; exact ih.2.1
    · rw [show (k + 1) * 3 + 2 = k * 3 + 2 + 3 by omega, e]; exact ih.2.2
theorem flat3_len (F : List V3) : (F.flatMap cells3).length = F.length * 3 := by
  induction F with
  | nil => rfl
  | cons x F ih => rw [List.flatMap_cons, List.length_append, ih, List.length_cons]; simp [cells3]; omega
def Own3 (w : World) (B : Nat) (v : Value) (F : List V3) : Prop := w.ownsRow B 72 3 v F.length (F.flatMap cells3)
theorem Own3.form {w : World} {B : Nat} {v : Value} {F : List V3} (h : Own3 w B v F) : ∃ ao cap, v = .slice ao F.length cap ∧ F.length ≤ cap ∧ (cap : Int) ≤ 9223372036854775807 := by
  rcases h.2 with ⟨rfl, h2⟩ | ⟨g, cap, cur, rfl, h1, h2, h3, h4, h5, h6⟩
  · exact ⟨none, 0, by rw [h2], by omega, by decide⟩
  · refine ⟨_, cap, rfl, h3, ?_⟩
    unfold maxLen at h4
    omega
theorem Own3.at {w : World} {B : Nat} {v : Value} {F : List V3} (h : Own3 w B v F) (hF : 1 ≤ F.length) : ∃ g cap, v = .slice (some ⟨g, 0, none⟩) F.length cap ∧ At3 w g F ∧ F.length ≤ cap ∧ (cap : Int) ≤ 9223372036854775807 := by
  rcases h.2 with ⟨rfl, h2⟩ | ⟨g, cap, cur, rfl, h1, h2, h3, h4, h5, h6⟩
  · omega
  · refine ⟨g, cap, rfl, ?_, h3, by unfold maxLen at h4; omega⟩
    have hc : ∀ m, m < F.length * 3 → w.cell? ⟨g, m, none⟩ = (F.flatMap cells3)[m]? := fun m hm => by
      rw [← h6, List.getElem?_take, if_pos hm]
      simp [World.cell?, h2]
    intro k a b c hk
    have hk1 := (List.getElem?_eq_some_iff.1 hk).1
    have hf := flat3_get F k _ hk
    exact ⟨(hc _ (by omega)).trans hf.1, (hc _ (by omega)).trans hf.2.1, (hc _ (by omega)).trans hf.2.2⟩
theorem Own3.blk {w : World} {B : Nat} {v : Value} {F : List V3} (h : Own3 w B v F) (hF : 1 ≤ F.length) : ∃ g cap cur, v = .slice (some ⟨g, 0, none⟩) F.length cap ∧ w.heap[g]? = some (.cells cur 72 (0, 0)) ∧ (∀ w' : World, w'.heap[g]? = some (.cells cur 72 (0, 0)) → At3 w' g F) ∧ F.length ≤ cap ∧ (cap : Int) ≤ 9223372036854775807 := by
  rcases h.2 with ⟨rfl, h2⟩ | ⟨g, cap, cur, rfl, h1, h2, h3, h4, h5, h6⟩
  · omega
  · refine ⟨g, cap, cur, rfl, h2, ?_, h3, by unfold maxLen at h4; omega⟩
    intro w' h2
    have hc : ∀ m, m < F.length * 3 → w'.cell? ⟨g, m, none⟩ = (F.flatMap cells3)[m]? := fun m hm => by
      rw [← h6, List.getElem?_take, if_pos hm]
      simp [World.cell?, h2]
    intro k a b c hk
    have hk1 := (List.getElem?_eq_some_iff.1 hk).1
    have hf := flat3_get F k _ hk
    exact ⟨(hc _ (by omega)).trans hf.1, (hc _ (by omega)).trans hf.2.1, (hc _ (by omega)).trans hf.2.2⟩
theorem blk_grown {w w' : World} {v : Value} {xs : List Value} {B b : Nat} {cs : Array Value} {T : TypeId} (h : w.heap[b]? = some (.cells cs T (0, 0))) (hT : T ≠ 36) (ho : Own w B 36 v xs) (hg : w.grownBy w' v.ownBlock) : w'.heap[b]? = some (.cells cs T (0, 0)) := by
  rw [hg.block b (Array.getElem?_eq_some_iff.1 h).1 ?_]
  · exact h
  · intro e
    obtain ⟨cur, hc⟩ := Own.block ho e.symm
    rw [h] at hc
    simp only [Option.some.injEq, Obj.cells.injEq] at hc
    exact hT hc.2.1
theorem blk_below {w w' : World} {b : Nat} {o : Obj} (h : w.heap[b]? = some o) (hb : Below w.heap.size w w') : w'.heap[b]? = some o := (hb.block b (Array.getElem?_eq_some_iff.1 h).1).trans h
theorem Own3.lt {w : World} {B : Nat} {v : Value} {F : List V3} (h : Own3 w B v F) {k : Nat} (hk : v.ownBlock = some k) : B ≤ k ∧ k < w.heap.size := World.ownsRow.lt h k hk
theorem Own3.below {w w' : World} {B : Nat} {v : Value} {F : List V3} (h : Own3 w B v F) (hb : Below w.heap.size w w') : Own3 w' B v F := by
  rcases h.2 with ⟨rfl, h2⟩ | ⟨g, cap, cur, rfl, h1, h2, h3⟩
  · exact ⟨h.1, .inl ⟨rfl, h2⟩⟩
  · exact ⟨h.1, .inr ⟨g, cap, cur, rfl, h1, (hb.block g (Array.getElem?_eq_some_iff.1 h2).1).trans h2, h3⟩⟩
theorem Own3.mono {w : World} {B B' : Nat} {v : Value} {F : List V3} (h : Own3 w B v F) (hB : B' ≤ B) : Own3 w B' v F := by
  rcases h.2 with ⟨rfl, h2⟩ | ⟨g, cap, cur, rfl, h1, h2, h3⟩
  · exact ⟨h.1, .inl ⟨rfl, h2⟩⟩
  · exact ⟨h.1, .inr ⟨g, cap, cur, rfl, by omega, h2, h3⟩⟩
theorem own3_lit (w : World) (F : List V3) (hn : F.length ≤ 1000) : Own3 (w.alloc (.cells (F.flatMap cells3).toArray 72)) w.heap.size (.slice (some ⟨w.heap.size, 0, none⟩) F.length F.length) F := by
  have h := World.ownsRow_lit (size := 3) w (e := 72) (F.flatMap cells3).toArray F.length (Nat.le_refl _) (by unfold maxLen; omega) (by rw [List.size_toArray]; exact flat3_len F)
  exact h
theorem Tryz.infoArr : (Tryz.prog.info? 72).map (fun i => (i.zero, i.size, i.bytes)) = some (some (.agg #[.int .i64 0, .int .i64 0, .int .i64 0]), 3, 24) := by kernel_rfl
theorem info_parts3 {P : Program} {e : TypeId} {z : Value} {s b : Nat} (h : (P.info? e).map (fun i => (i.zero, i.size, i.bytes)) = some (some z, s, b)) : ∃ i, P.info? e = some i ∧ i.zero = some z ∧ i.size = s ∧ i.bytes = b := by
  obtain ⟨i, hi, h2⟩ := Option.map_eq_some_iff.1 h
  simp only [Prod.mk.injEq] at h2
  exact ⟨i, hi, h2.1, h2.2.1, h2.2.2⟩
theorem app3 {w : World} {ops : Array Oper} {rest : List Oper} {o : Oper} {a : Act} {Q : Exit → Act → World → Prop} (hg : o.guard = none) (s x : Operand) (hop : o.op = .call { callee := .builtin .append, args := #[s, x], argTypes := #[51, 51] })
    {B : Nat} {v : Value} {F : List V3} {t : V3} {b c : Nat} (hs : a.eval s = v) (hown : Own3 w B v F) (hx : a.eval x = .slice (some ⟨b, 0, none⟩) 1 c) (hA : Arr3 w b t.1 t.2.1 t.2.2)
    (hn : F.length + 1 ≤ 1000000) (hB : B ≤ w.heap.size)
    (hK : ∀ v' w', Own3 w' B v' (F ++ [t]) → w.grownBy w' v.ownBlock → wpList Tryz.prog ops Q rest (a.put o.dst v') w') :
    wpList Tryz.prog ops Q (o :: rest) a w := by
  obtain ⟨i0, hi, hz0, hz1, hz2⟩ := info_parts3 Tryz.infoArr
  refine wpList_append_own w hg s x 51 hop B 72 i0 _ 3 24 Tryz.underlying51 hi hz0 hz1 hz2 rfl (by decide) v F.length _ hs hown ⟨b, 0, none⟩ 1 c (cells3 t) hx rfl ?_ ?_ (by unfold maxLen; omega) (by omega) hB ?_
  · obtain ⟨h0, h1, h2⟩ := hA.cells
    intro j u hj
    rw [addr_add, Nat.zero_add]
    match j, hj with
    | 0, hj => simp [cells3] at hj; subst hj; exact h0
    | 1, hj => simp [cells3] at hj; subst hj; exact h1
    | 2, hj => simp [cells3] at hj; subst hj; exact h2
    | j + 3, hj => simp [cells3] at hj
  · intro u hu
    simp [cells3] at hu
    rcases hu with rfl | rfl | rfl <;> rfl
  · intro v' w' ho hgr _
    refine hK v' w' ?_ hgr
    unfold Own3
    rw [List.length_append, List.flatMap_append]
    simpa using ho
end Go.Proofs.YtdjdagcgodpgdaaGreat
