/-
  What 'grow' sees: the necklaces above a bound, in order. No program in sight.
-/
import Derived.Test.YtmlmpneikhdgcaaFkm
import Derived.Test.YtmlmpneikhdgcaaWordsN
set_option linter.unusedVariables false
namespace Go.Proofs.Ytmlmpneikhdgcaa.Words
open Go.Proofs.Ytmlmpneikhdgcaa.Perms

theorem stepW_flatMap (k : Nat) {α : Type} (f : α → List (List Int)) : ∀ l : List α, stepW k (l.flatMap f) = l.flatMap fun x => stepW k (f x)
  | [] => by simp [stepW]
  | x :: l => by rw [List.flatMap_cons, List.flatMap_cons, stepW_append, stepW_flatMap k f l]
theorem stepW_consAll (k : Nat) (x : Int) : ∀ ws : List (List Int), stepW k (ws.map fun w => x :: w) = (stepW k ws).map fun w => x :: w
  | [] => by simp [stepW]
  | w :: ws => by
    rw [List.map_cons, stepW_cons, stepW_cons, List.map_append, stepW_consAll k x ws, List.map_map]
    rfl
theorem wordsN_left (k : Nat) : ∀ r, wordsN k (r + 1) = (List.range k).flatMap fun (x : Nat) => (wordsN k r).map fun w => (x : Int) :: w
  | 0 => by
    simp only [wordsN, stepW, List.flatMap_cons, List.flatMap_nil, List.append_nil, List.nil_append, List.map_cons, List.map_nil]
    induction List.range k with
    | nil => rfl
    | cons x l ih => simp [ih]
  | r + 1 => by
    show stepW k (wordsN k (r + 1)) = _
    conv => lhs; rw [wordsN_left k r, stepW_flatMap]
    congr 1
    funext x
    rw [stepW_consAll]
    rfl
/-- The words that begin with pre, have r letters more, are necklaces, and lie above b (or 'over' says that they do). -/
def vis (k : Nat) (b : List Int) (r : Nat) (pre : List Int) (over : Bool) : List (List Int) :=
  ((wordsN k r).map fun w => pre ++ w).filter fun w => neckP w && (over || decide (cmpL b w < 0))
theorem vis_zero (k : Nat) (b pre : List Int) (over : Bool) : vis k b 0 pre over = if (neckP pre && (over || decide (cmpL b pre < 0))) = true then [pre] else [] := by
  simp [vis, wordsN, List.filter_cons]
theorem vis_step (k : Nat) (b : List Int) (r : Nat) (pre : List Int) (over : Bool) : vis k b (r + 1) pre over = (List.range k).flatMap fun (x : Nat) => vis k b r (pre ++ [(x : Int)]) over := by
  unfold vis
  rw [wordsN_left, List.map_flatMap, List.filter_flatMap]
  congr 1
  funext x
  rw [List.map_map]
  congr 2
  funext w
  simp
theorem vis_nil {k : Nat} {b : List Int} {r : Nat} {pre : List Int} {over : Bool} (h : ∀ w, w.length = r → (neckP (pre ++ w) && (over || decide (cmpL b (pre ++ w) < 0))) = false) : vis k b r pre over = [] := by
  unfold vis
  rw [List.filter_eq_nil_iff]
  intro w hw
  obtain ⟨u, hu, rfl⟩ := List.mem_map.1 hw
  rw [h u (wordsN_mem.1 hu).1]
  simp
theorem at_app {u v : List Int} {i : Nat} (h : i < u.length) : at_ (u ++ v) i = at_ u i := by
  unfold at_ List.getD; rw [List.getElem?_append_left h]
theorem at_snoc (u : List Int) (x : Int) (v : List Int) : at_ (u ++ x :: v) u.length = x := by
  unfold at_ List.getD; rw [List.getElem?_append_right (Nat.le_refl _), Nat.sub_self, List.getElem?_cons_zero, Option.getD_some]
/-- A letter below the one that the period asks for. -/
theorem vis_low {k : Nat} {b : List Int} {r p : Nat} {pre : List Int} {over : Bool} {x : Int} (h : Inv (at_ pre) pre.length p) (hx : x < at_ pre (pre.length - p)) : vis k b r (pre ++ [x]) over = [] := by
  refine vis_nil fun w hw => ?_
  have hp := h.pos
  have hle := h.le
  have hn : neckP (pre ++ [x] ++ w) = false := by
    refine Inv.low (j := pre.length) (p := p) (h.congr fun i hi => ?_) (by simp; try omega) ?_
    · rw [List.append_assoc, at_app hi]
    · rw [List.append_assoc, List.singleton_append, at_snoc, at_app (by omega)]; exact hx
  rw [hn]; rfl
/-- Below the bound. -/
theorem vis_below {k : Nat} {b : List Int} {r j : Nat} {x : Int} (hb : b.length = j + 1 + r) (hx : x < at_ b j) : vis k b r (b.take j ++ [x]) false = [] := by
  refine vis_nil fun w hw => ?_
  have hl : (b.take j).length = j := by rw [List.length_take]; omega
  have : cmpL (b.take j ++ [x] ++ w) b < 0 := by
    refine cmpL_at (t := j) (by simp; omega) (by omega) (fun s hs => ?_) ?_
    · rw [List.append_assoc, at_app (by omega)]
      unfold at_ List.getD
      rw [List.getElem?_take, if_pos hs]
    · have := at_snoc (b.take j) x w
      rw [hl] at this
      rw [List.append_assoc, List.singleton_append, this]; exact hx
  rw [cmpL_neg] at this
  rw [decide_eq_false (by omega)]
  simp
/-- Above the bound, at this letter. -/
theorem vis_above {k : Nat} {b : List Int} {r j : Nat} {x : Int} (hb : b.length = j + 1 + r) (hx : at_ b j < x) : vis k b r (b.take j ++ [x]) false = vis k b r (b.take j ++ [x]) true := by
  unfold vis
  apply List.filter_congr
  intro w hw
  obtain ⟨u, hu, rfl⟩ := List.mem_map.1 hw
  have hl : (b.take j).length = j := by rw [List.length_take]; omega
  have : cmpL b (b.take j ++ [x] ++ u) < 0 := by
    refine cmpL_at (t := j) (by omega) (by simp; omega) (fun s hs => ?_) ?_
    · rw [List.append_assoc, at_app (by omega)]
      unfold at_ List.getD
      rw [List.getElem?_take, if_pos hs]
    · have := at_snoc (b.take j) x u
      rw [hl] at this
      rw [List.append_assoc, List.singleton_append, this]; exact hx
  rw [decide_eq_true this]
  rfl
/-- The state of the growth: the letters so far and their period. -/
def St (pre : List Int) (p : Nat) : Prop := (pre = [] ∧ p = 1) ∨ Inv (at_ pre) pre.length p
def leastL (pre : List Int) (p : Nat) : Int := if pre = [] then 0 else at_ pre (pre.length - p)
def nextP (pre : List Int) (p : Nat) (x : Int) : Nat := if pre = [] then 1 else if x = leastL pre p then p else pre.length + 1
theorem St.pos {pre : List Int} {p : Nat} (h : St pre p) : 1 ≤ p := by
  rcases h with ⟨_, rfl⟩ | h
  · exact Nat.le_refl _
  · exact h.pos
theorem St.le {pre : List Int} {p : Nat} (h : St pre p) (h0 : pre ≠ []) : p ≤ pre.length := by
  rcases h with ⟨e, _⟩ | h
  · exact absurd e h0
  · exact h.le
theorem St.next {pre : List Int} {p : Nat} {x : Int} (h : St pre p) (hx : leastL pre p ≤ x) : St (pre ++ [x]) (nextP pre p x) := by
  right
  rcases h with ⟨rfl, rfl⟩ | h
  · unfold nextP
    rw [if_pos rfl]
    exact Inv.one _
  · have hp := h.pos
    have hle := h.le
    have h0 : pre ≠ [] := by intro e; rw [e] at hle; simp at hle; omega
    have h' : Inv (at_ (pre ++ [x])) pre.length p := h.congr fun i hi => (at_app hi).symm
    have ex : at_ (pre ++ [x]) pre.length = x := at_snoc pre x []
    have el : at_ (pre ++ [x]) (pre.length - p) = leastL pre p := by
      unfold leastL; rw [if_neg h0, at_app (by omega)]
    unfold nextP
    rw [if_neg h0, List.length_append, List.length_singleton]
    split
    · rename_i e
      exact h'.keep (by rw [ex, el, e])
    · exact h'.new (by rw [ex, el]; omega)
theorem St.neck {pre : List Int} {p : Nat} (h : St pre p) (h0 : pre ≠ []) : neckP pre = decide (pre.length % p = 0) := by
  rcases h with ⟨e, _⟩ | h
  · exact absurd e h0
  · by_cases hd : pre.length % p = 0
    · rw [decide_eq_true hd]; exact h.neck hd
    · rw [decide_eq_false hd]; exact h.not_neck hd
theorem St.low {k : Nat} {b : List Int} {r p : Nat} {pre : List Int} {over : Bool} {x : Nat} (h : St pre p) (hx : (x : Int) < leastL pre p) : vis k b r (pre ++ [(x : Int)]) over = [] := by
  rcases h with ⟨rfl, rfl⟩ | h
  · unfold leastL at hx; rw [if_pos rfl] at hx; omega
  · have hle := h.le
    have hp := h.pos
    have h0 : pre ≠ [] := by intro e; rw [e] at hle; simp at hle; omega
    unfold leastL at hx
    rw [if_neg h0] at hx
    exact vis_low h hx
/-- What the growth sees up to the letter x. -/
def visTo (k : Nat) (b : List Int) (r : Nat) (pre : List Int) (over : Bool) (x : Nat) : List (List Int) := (List.range x).flatMap fun (y : Nat) => vis k b r (pre ++ [(y : Int)]) over
theorem visTo_step (k : Nat) (b : List Int) (r : Nat) (pre : List Int) (over : Bool) (x : Nat) : visTo k b r pre over (x + 1) = visTo k b r pre over x ++ vis k b r (pre ++ [(x : Int)]) over := by
  unfold visTo; rw [List.range_succ, List.flatMap_append]; simp
theorem visTo_all (k : Nat) (b : List Int) (r : Nat) (pre : List Int) (over : Bool) : visTo k b r pre over k = vis k b (r + 1) pre over := (vis_step k b r pre over).symm
theorem visTo_low {k : Nat} {b : List Int} {r p : Nat} {pre : List Int} {over : Bool} (h : St pre p) : ∀ {x : Nat}, (x : Int) ≤ leastL pre p → visTo k b r pre over x = []
  | 0, _ => by simp [visTo]
  | x + 1, hx => by rw [visTo_step, visTo_low h (by omega), h.low (by omega)]; rfl
/-- All necklaces. -/
theorem vis_necks (k : Nat) (b : List Int) (n : Nat) : vis k b n [] true = (wordsN k n).filter neckP := by
  unfold vis
  simp
/-- The necklaces above a word. -/
theorem vis_next (k : Nat) (b : List Int) (n : Nat) : vis k b n [] false = (wordsN k n).filter fun w => neckP w && decide (cmpL b w < 0) := by
  unfold vis
  simp
end Go.Proofs.Ytmlmpneikhdgcaa.Words
