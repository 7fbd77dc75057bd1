/-
  Plain permutations. No program in sight.
-/
import Derived.Test.YtdjdagcgodpgdaaGreatWords
set_option linter.unusedVariables false
namespace Go.Proofs.YtdjdagcgodpgdaaGreat.Perms
/-- The first j elements are points, each another one. -/
def okTo (xs : List Int) : Nat → Bool
  | 0 => true
  | j + 1 => okTo xs j && (match xs[j]? with
    | some x => decide (0 ≤ x) && decide (x < xs.length) && !decide (x ∈ xs.take j)
    | none => false)
def permB (xs : List Int) : Bool := decide (1 ≤ xs.length ∧ xs.length ≤ 10) && okTo xs xs.length
theorem okTo_down {xs : List Int} : ∀ {n j : Nat}, j ≤ n → okTo xs n = true → okTo xs j = true
  | 0, j, h, k => by
    obtain rfl : j = 0 := by omega
    exact k
  | n + 1, j, h, k => by
    by_cases e : j = n + 1
    · subst e; exact k
    · simp only [okTo, Bool.and_eq_true] at k
      exact okTo_down (by omega) k.1
theorem okTo_bad {xs : List Int} {j : Nat} (hj : j < xs.length) (h : okTo xs (j + 1) = false) : okTo xs xs.length = false := by
  cases hc : okTo xs xs.length with
  | false => rfl
  | true => rw [okTo_down (by omega) hc] at h; cases h
theorem mem_step {xs : List Int} {j : Nat} {x : Int} (hx : xs[j]? = some x) (h0 : 0 ≤ x) (i : Nat) : (if i = x.toNat then true else decide ((i : Int) ∈ xs.take j)) = decide ((i : Int) ∈ xs.take (j + 1)) := by
  rw [List.take_add_one, hx]
  by_cases e : i = x.toNat
  · rw [if_pos e]
    symm
    rw [decide_eq_true_eq, List.mem_append]
    right
    simp
    omega
  · rw [if_neg e, Bool.eq_iff_iff, decide_eq_true_eq, decide_eq_true_eq, List.mem_append]
    constructor
    · intro h; exact .inl h
    · intro h
      rcases h with h | h
      · exact h
      · simp at h; omega
/-- Each point as p and then as q does. -/
def comp (p q : List Int) : List Int := p.map fun x => q.getD x.toNat 0
theorem comp_len (p q : List Int) : (comp p q).length = p.length := by simp [comp]
theorem comp_get {p q : List Int} {j : Nat} {x y : Int} (hx : p[j]? = some x) (h0 : 0 ≤ x) (hy : q[x.toNat]? = some y) : (comp p q)[j]? = some y := by
  simp [comp, hx, List.getD, hy]
/-- The coloring to which p carries l, after the first j points. -/
def actTo (p l : List Int) : Nat → List Int
  | 0 => List.replicate l.length 0
  | j + 1 => match p[j]?, l[j]? with
    | some x, some y => (actTo p l j).set x.toNat y
    | _, _ => actTo p l j
def act (p l : List Int) : List Int := actTo p l l.length
theorem actTo_len (p l : List Int) : ∀ j, (actTo p l j).length = l.length
  | 0 => by simp [actTo]
  | j + 1 => by
    simp only [actTo]
    split
    · rw [List.length_set, actTo_len p l j]
    · exact actTo_len p l j
theorem act_len (p l : List Int) : (act p l).length = l.length := actTo_len p l _
/-- In strictly ascending order. -/
def Asc (g : List (List Int)) : Prop := ∀ (i j : Nat) (a b : List Int), i < j → g[i]? = some a → g[j]? = some b → Words.cmpL a b < 0
/-- The place of p, or -1. -/
def idx (g : List (List Int)) (p : List Int) : Int := if p ∈ g then (g.idxOf p : Int) else -1
/-- Before i all rows are less than p, from j on none is. -/
def Cut (g : List (List Int)) (p : List Int) (i j : Nat) : Prop := (∀ k x, k < i → g[k]? = some x → Words.cmpL x p < 0) ∧ (∀ k x, j ≤ k → g[k]? = some x → ¬ Words.cmpL x p < 0)
theorem Cut.start (g : List (List Int)) (p : List Int) : Cut g p 0 g.length :=
  ⟨fun k x h => by omega, fun k x h hx => by have := (List.getElem?_eq_some_iff.1 hx).1; omega⟩
theorem Cut.up {g : List (List Int)} {p xs : List Int} {i j m : Nat} (h : Cut g p i j) (hs : Asc g) (hx : g[m]? = some xs) (hc : Words.cmpL xs p < 0) : Cut g p (m + 1) j := by
  refine ⟨fun k y hk hy => ?_, h.2⟩
  by_cases e : k = m
  · subst e; rw [hx] at hy; cases hy; exact hc
  · exact Words.cmpL_trans (hs k m y xs (by omega) hy hx) hc
theorem Cut.down {g : List (List Int)} {p xs : List Int} {i j m : Nat} (h : Cut g p i j) (hs : Asc g) (hx : g[m]? = some xs) (hc : ¬ Words.cmpL xs p < 0) : Cut g p i m := by
  refine ⟨h.1, fun k y hk hy hlt => ?_⟩
  by_cases e : k = m
  · subst e; rw [hx] at hy; cases hy; exact hc hlt
  · exact hc (Words.cmpL_trans (hs m k xs y (by omega) hx hy) hlt)
theorem Asc.inj {g : List (List Int)} (hs : Asc g) {i j : Nat} {x : List Int} (hi : g[i]? = some x) (hj : g[j]? = some x) : i = j := by
  rcases Nat.lt_trichotomy i j with h | h | h
  · have := hs i j x x h hi hj; rw [Words.cmpL_self] at this; omega
  · exact h
  · have := hs j i x x h hj hi; rw [Words.cmpL_self] at this; omega
theorem idx_at {g : List (List Int)} (hs : Asc g) {i : Nat} {p : List Int} (hp : g[i]? = some p) : idx g p = i := by
  have hm : p ∈ g := List.mem_of_getElem? hp
  unfold idx
  rw [if_pos hm]
  have hl : g.idxOf p < g.length := List.idxOf_lt_length_iff.2 hm
  have hg : g[g.idxOf p]? = some p := by
    rw [List.getElem?_eq_getElem hl, List.getElem_idxOf]
  rw [hs.inj hg hp]
theorem Cut.found {g : List (List Int)} {p : List Int} {i j : Nat} (_h : Cut g p i j) (hs : Asc g) (hp : g[i]? = some p) : idx g p = i := idx_at hs hp
theorem Cut.missed {g : List (List Int)} {p : List Int} {i : Nat} (h : Cut g p i i) (hs : Asc g) (hp : ∀ y, g[i]? = some y → y ≠ p) : idx g p = -1 := by
  unfold idx
  rw [if_neg]
  intro hm
  obtain ⟨k, hk, e⟩ := List.mem_iff_getElem.1 hm
  have hg : g[k]? = some p := by rw [List.getElem?_eq_getElem hk, e]
  have h0 := Words.cmpL_self p
  rcases Nat.lt_trichotomy k i with hlt | heq | hgt
  · have := h.1 k p hlt hg; omega
  · subst heq; exact hp p hg rfl
  · have hi : g[i]? = some g[i] := List.getElem?_eq_getElem (by omega)
    exact h.2 i _ (Nat.le_refl _) hi (hs i k _ p hgt hi hg)
def row0 (g : List (List Int)) : List Int := g.getD 0 []
/-- The first j rows are permutations of the degree of the first, ascending. -/
def rowsTo (g : List (List Int)) : Nat → Bool
  | 0 => true
  | j + 1 => rowsTo g j && (match g[j]? with
    | some p => permB p && decide (p.length = (row0 g).length) && (j == 0 || Words.less (g.getD (j - 1) []) p)
    | none => false)
def closed (g : List (List Int)) : Bool := g.all fun p => g.all fun q => decide (comp p q ∈ g)
def grpB (g : List (List Int)) : Bool := decide (1 ≤ g.length ∧ g.length ≤ 120) && rowsTo g g.length && closed g
theorem rowsTo_down {g : List (List Int)} : ∀ {n j : Nat}, j ≤ n → rowsTo g n = true → rowsTo g j = true
  | 0, j, h, k => by
    obtain rfl : j = 0 := by omega
    exact k
  | n + 1, j, h, k => by
    by_cases e : j = n + 1
    · subst e; exact k
    · simp only [rowsTo, Bool.and_eq_true] at k
      exact rowsTo_down (by omega) k.1
theorem rowsTo_bad {g : List (List Int)} {j : Nat} (hj : j < g.length) (h : rowsTo g (j + 1) = false) : rowsTo g g.length = false := by
  cases hc : rowsTo g g.length with
  | false => rfl
  | true => rw [rowsTo_down (by omega) hc] at h; cases h
theorem rowsTo_at {g : List (List Int)} {n j : Nat} {p : List Int} (h : rowsTo g n = true) (hj : j < n) (hp : g[j]? = some p) : permB p = true ∧ p.length = (row0 g).length ∧ (j = 0 ∨ Words.less (g.getD (j - 1) []) p = true) := by
  have h1 := rowsTo_down (show j + 1 ≤ n by omega) h
  simp only [rowsTo, hp, Bool.and_eq_true, decide_eq_true_eq, Bool.or_eq_true, beq_iff_eq] at h1
  exact ⟨h1.2.1.1, h1.2.1.2, h1.2.2⟩
theorem rowsTo_len {g : List (List Int)} {n j : Nat} {p q : List Int} (h : rowsTo g n = true) (h0 : g[0]? = some p) (hj : j < n) (hq : g[j]? = some q) : q.length = p.length := by
  have := (rowsTo_at h hj hq).2.1
  rw [this]
  simp [row0, List.getD, h0]
theorem permB_len {p : List Int} (h : permB p = true) : 1 ≤ p.length ∧ p.length ≤ 10 := by
  simp only [permB, Bool.and_eq_true, decide_eq_true_eq] at h
  exact h.1
theorem permB_ok {p : List Int} (h : permB p = true) : okTo p p.length = true := by
  simp only [permB, Bool.and_eq_true, decide_eq_true_eq] at h
  exact h.2
theorem permB_range {p : List Int} (h : permB p = true) : ∀ x ∈ p, 0 ≤ x ∧ x < p.length := by
  intro x hx
  obtain ⟨k, hk, e⟩ := List.mem_iff_getElem.1 hx
  have h1 := okTo_down (show k + 1 ≤ p.length by omega) (permB_ok h)
  simp only [okTo, List.getElem?_eq_getElem hk, Bool.and_eq_true, decide_eq_true_eq] at h1
  rw [← e]
  exact ⟨h1.2.1.1, h1.2.1.2⟩
theorem rowsTo_mem {g : List (List Int)} {p : List Int} (h : rowsTo g g.length = true) (hp : p ∈ g) : permB p = true ∧ p.length = (row0 g).length := by
  obtain ⟨k, hk, e⟩ := List.mem_iff_getElem.1 hp
  have := rowsTo_at h hk (by rw [List.getElem?_eq_getElem hk, e])
  exact ⟨this.1, this.2.1⟩
theorem rowsTo_le {g : List (List Int)} {j : Nat} {p : List Int} (h : rowsTo g g.length = true) (hp : g[j]? = some p) : p.length ≤ 1048576 := by
  have := permB_len (rowsTo_mem h (List.mem_of_getElem? hp)).1
  omega
theorem rowsTo_in {g : List (List Int)} {i j : Nat} {p q : List Int} (h : rowsTo g g.length = true) (hp : g[i]? = some p) (hq : g[j]? = some q) : ∀ x ∈ p, 0 ≤ x ∧ x < q.length := by
  have h1 := rowsTo_mem h (List.mem_of_getElem? hp)
  have h2 := rowsTo_mem h (List.mem_of_getElem? hq)
  intro x hx
  have := permB_range h1.1 x hx
  omega
theorem rowsTo_same {g : List (List Int)} {j : Nat} {x p : List Int} (h : rowsTo g g.length = true) (hx : x ∈ g) (hp : g[j]? = some p) : x.length = p.length := by
  rw [(rowsTo_mem h hx).2, (rowsTo_mem h (List.mem_of_getElem? hp)).2]
theorem rowsTo_asc {g : List (List Int)} (h : rowsTo g g.length = true) : Asc g := by
  have step : ∀ j a b, g[j]? = some a → g[j + 1]? = some b → Words.cmpL a b < 0 := by
    intro j a b ha hb
    have hl := (List.getElem?_eq_some_iff.1 hb).1
    have h1 := (rowsTo_at h hl hb).2.2
    rw [Nat.add_sub_cancel] at h1
    rcases h1 with h1 | h1
    · omega
    · have e : g.getD j [] = a := by simp [List.getD, ha]
      rw [e] at h1
      exact (Words.less_neg (rowsTo_same h (List.mem_of_getElem? ha) hb)).1 h1
  intro i j a b hij ha hb
  induction j generalizing b with
  | zero => omega
  | succ j ih =>
    by_cases e : i = j
    · subst e; exact step i a b ha hb
    · have hl := (List.getElem?_eq_some_iff.1 hb).1
      have hc : g[j]? = some g[j] := List.getElem?_eq_getElem (by omega)
      exact Words.cmpL_trans (ih _ (by omega) hc) (step j _ b hc hb)
theorem closed_ok {g : List (List Int)} (h : ∀ p ∈ g, ∀ q ∈ g, comp p q ∈ g) : closed g = true := by
  simp only [closed, List.all_eq_true, decide_eq_true_eq]
  exact h
theorem closed_mem {g : List (List Int)} (h : closed g = true) : ∀ p ∈ g, ∀ q ∈ g, comp p q ∈ g := by
  simp only [closed, List.all_eq_true, decide_eq_true_eq] at h
  exact h
theorem closed_bad {g : List (List Int)} {p q : List Int} (hp : p ∈ g) (hq : q ∈ g) (h : comp p q ∉ g) : closed g = false := by
  cases hc : closed g with
  | false => rfl
  | true => exact absurd (closed_mem hc p hp q hq) h
end Go.Proofs.YtdjdagcgodpgdaaGreat.Perms
