/-
  Part 1 of 8 of what the law FnSolids rests on.
-/
set_option maxRecDepth 20000
/- Plain functions on words: no program in sight. -/
set_option linter.unusedVariables false
namespace Go.Proofs.Ytdjdagcgodpgdaa.Words
/-- The first m letters of ys are those of xs from j on, around its end. -/
def matchTo (xs ys : List Int) (j : Nat) : Nat → Bool
  | 0 => true
  | m + 1 => matchTo xs ys j m && xs[(j + m) % xs.length]? == ys[m]?
def plcFrom (xs ys : List Int) : Nat → Nat → Int
  | 0, _ => -1
  | g + 1, j => if matchTo xs ys j ys.length then j else plcFrom xs ys g (j + 1)
def placeOf (xs ys : List Int) : Int := if ys.length = 0 then -1 else plcFrom xs ys xs.length 0
theorem matchTo_false {xs ys : List Int} {j m : Nat} (h : matchTo xs ys j m = false) : ∀ n, m ≤ n → matchTo xs ys j n = false := by
  intro n hn
  induction n with
  | zero =>
    obtain rfl : m = 0 := by omega
    exact h
  | succ n ih =>
    by_cases e : m = n + 1
    · subst e; exact h
    · simp only [matchTo, ih (by omega), Bool.false_and]
theorem drop_end {xs : List Int} {j : Nat} (h : xs.length ≤ j) : xs.drop j = [] := List.drop_eq_nil_of_le h
/-- Lexicographic order of two lists of one length. -/
def less : List Int → List Int → Bool
  | x :: xs, y :: ys => if x ≠ y then decide (x < y) else less xs ys
  | _, _ => false
/-- Lexicographic comparison. -/
def cmpL : List Int → List Int → Int
  | [], [] => 0
  | [], _ :: _ => -1
  | _ :: _, [] => 1
  | x :: xs, y :: ys => if x < y then -1 else if y < x then 1 else cmpL xs ys
theorem less_drop {xs ys : List Int} {j : Nat} {x y : Int} (hx : xs[j]? = some x) (hy : ys[j]? = some y) :
    less (xs.drop j) (ys.drop j) = if x ≠ y then decide (x < y) else less (xs.drop (j + 1)) (ys.drop (j + 1)) := by
  obtain ⟨h1, rfl⟩ := List.getElem?_eq_some_iff.1 hx
  obtain ⟨h2, rfl⟩ := List.getElem?_eq_some_iff.1 hy
  rw [List.drop_eq_getElem_cons h1, List.drop_eq_getElem_cons h2]
  rfl
theorem cmpL_drop {xs ys : List Int} {j : Nat} {x y : Int} (hx : xs[j]? = some x) (hy : ys[j]? = some y) :
    cmpL (xs.drop j) (ys.drop j) = if x < y then -1 else if y < x then 1 else cmpL (xs.drop (j + 1)) (ys.drop (j + 1)) := by
  obtain ⟨h1, rfl⟩ := List.getElem?_eq_some_iff.1 hx
  obtain ⟨h2, rfl⟩ := List.getElem?_eq_some_iff.1 hy
  rw [List.drop_eq_getElem_cons h1, List.drop_eq_getElem_cons h2]
  rfl
theorem less_cmp : ∀ {xs ys : List Int}, xs.length = ys.length → less xs ys = decide (cmpL xs ys < 0)
  | [], [], _ => rfl
  | [], _ :: _, h => by simp at h
  | _ :: _, [], h => by simp at h
  | x :: xs, y :: ys, h => by
    simp only [less, cmpL]
    by_cases e : x = y
    · subst e
      simp only [ne_eq, not_true_eq_false, if_false, Int.lt_irrefl]
      exact less_cmp (by simpa using h)
    · rw [if_pos e]
      by_cases l : x < y
      · simp [l]
      · have g : y < x := by omega
        simp [l, g]
theorem less_neg {xs ys : List Int} (h : xs.length = ys.length) : less xs ys = true ↔ cmpL xs ys < 0 := by rw [less_cmp h, decide_eq_true_eq]
theorem cmpL_self : ∀ xs : List Int, cmpL xs xs = 0
  | [] => rfl
  | x :: xs => by simp only [cmpL, Int.lt_irrefl, if_false]; exact cmpL_self xs
theorem cmpL_eq : ∀ {xs ys : List Int}, cmpL xs ys = 0 → xs = ys
  | [], [], _ => rfl
  | [], _ :: _, h => by simp [cmpL] at h
  | _ :: _, [], h => by simp [cmpL] at h
  | x :: xs, y :: ys, h => by
    simp only [cmpL] at h
    split at h
    · simp at h
    · split at h
      · simp at h
      · rw [show x = y by omega, cmpL_eq h]
theorem cmpL_neg : ∀ xs ys : List Int, cmpL ys xs = -cmpL xs ys
  | [], [] => rfl
  | [], _ :: _ => rfl
  | _ :: _, [] => rfl
  | x :: xs, y :: ys => by
    simp only [cmpL]
    have := cmpL_neg xs ys
    by_cases l : x < y
    · rw [if_neg (by omega), if_pos l, if_pos l]; rfl
    · by_cases g : y < x
      · rw [if_pos g, if_neg l, if_pos g]
      · rw [if_neg g, if_neg l, if_neg l, if_neg g]; exact this
theorem cmpL_trans : ∀ {xs ys zs : List Int}, cmpL xs ys < 0 → cmpL ys zs < 0 → cmpL xs zs < 0
  | [], [], _, h, _ => by simp [cmpL] at h
  | [], _ :: _, [], _, k => by simp [cmpL] at k
  | [], _ :: _, _ :: _, _, _ => by simp [cmpL]
  | _ :: _, [], _, h, _ => by simp [cmpL] at h
  | _ :: _, _ :: _, [], _, k => by simp [cmpL] at k
  | x :: xs, y :: ys, z :: zs, h, k => by
    simp only [cmpL] at h k ⊢
    by_cases h1 : x < y
    · by_cases k1 : y < z
      · rw [if_pos (by omega)]; omega
      · rw [if_neg k1] at k
        split at k
        · omega
        · rw [if_pos (by omega)]; omega
    · rw [if_neg h1] at h
      split at h
      · omega
      · by_cases k1 : y < z
        · rw [if_pos (by omega)]; omega
        · rw [if_neg k1] at k
          split at k
          · omega
          · rw [if_neg (by omega), if_neg (by omega)]
            exact cmpL_trans h k
theorem cmpL_abs : ∀ xs ys : List Int, cmpL xs ys = -1 ∨ cmpL xs ys = 0 ∨ cmpL xs ys = 1
  | [], [] => by simp [cmpL]
  | [], _ :: _ => by simp [cmpL]
  | _ :: _, [] => by simp [cmpL]
  | x :: xs, y :: ys => by
    simp only [cmpL]
    split
    · simp
    · split
      · simp
      · exact cmpL_abs xs ys
def rot (xs : List Int) (k : Nat) : List Int := xs.drop k ++ xs.take k
def okC (x : Int) : Bool := decide (0 ≤ x) && decide (x ≤ 3)
/-- A word: one to ten colors from 0 to 3. -/
def okW (xs : List Int) : Bool := decide (1 ≤ xs.length ∧ xs.length ≤ 10) && xs.all okC
theorem okW_bad {xs : List Int} {j : Nat} {x : Int} (hx : xs[j]? = some x) (h : ¬ (0 ≤ x ∧ x ≤ 3)) : okW xs = false := by
  unfold okW
  rw [Bool.and_eq_false_iff]
  right
  rw [List.all_eq_false]
  refine ⟨x, List.mem_of_getElem? hx, ?_⟩
  simp only [okC, Bool.and_eq_true, decide_eq_true_eq]
  exact h
theorem okW_len {xs : List Int} (h : okW xs = true) : 1 ≤ xs.length ∧ xs.length ≤ 10 := by
  simp only [okW, Bool.and_eq_true, decide_eq_true_eq] at h
  exact h.1
theorem okW_all {xs : List Int} (h : okW xs = true) : ∀ x ∈ xs, 0 ≤ x ∧ x ≤ 3 := by
  simp only [okW, Bool.and_eq_true, decide_eq_true_eq, List.all_eq_true, okC] at h
  exact h.2
theorem okW_mk {xs : List Int} (h1 : 1 ≤ xs.length) (h2 : xs.length ≤ 10) (h3 : ∀ x ∈ xs, 0 ≤ x ∧ x ≤ 3) : okW xs = true := by
  simp only [okW, Bool.and_eq_true, decide_eq_true_eq, List.all_eq_true, okC]
  exact ⟨⟨h1, h2⟩, h3⟩
theorem rot_len (xs : List Int) {k : Nat} (hk : k ≤ xs.length) : (rot xs k).length = xs.length := by
  unfold rot; rw [List.length_append, List.length_drop, List.length_take]; omega
theorem rot_zero (xs : List Int) : rot xs 0 = xs := by simp [rot]
end Go.Proofs.Ytdjdagcgodpgdaa.Words
/- Plain permutations. No program in sight. -/
set_option linter.unusedVariables false
namespace Go.Proofs.Ytdjdagcgodpgdaa.Perms
/-- The first j elements are points, each another one. -/
def okTo (xs : List Int) : Nat → Bool
  | 0 => true
  | j + 1 => okTo xs j && (match xs[j]? with
    | some x => decide (0 ≤ x) && decide (x < xs.length) && !decide (x ∈ xs.take j)
    | none => false)
def permB (xs : List Int) : Bool := decide (1 ≤ xs.length ∧ xs.length ≤ 10) && okTo xs xs.length
theorem okTo_down {xs : List Int} : ∀ {n j : Nat}, j ≤ n → okTo xs n = true → okTo xs j = true
  | 0, j, h, k => by
    obtain rfl : j = 0 := by omega
    exact k
  | n + 1, j, h, k => by
    by_cases e : j = n + 1
    · subst e; exact k
    · simp only [okTo, Bool.and_eq_true] at k
      exact okTo_down (by omega) k.1
theorem okTo_bad {xs : List Int} {j : Nat} (hj : j < xs.length) (h : okTo xs (j + 1) = false) : okTo xs xs.length = false := by
  cases hc : okTo xs xs.length with
  | false => rfl
  | true => rw [okTo_down (by omega) hc] at h; cases h
theorem mem_step {xs : List Int} {j : Nat} {x : Int} (hx : xs[j]? = some x) (h0 : 0 ≤ x) (i : Nat) : (if i = x.toNat then true else decide ((i : Int) ∈ xs.take j)) = decide ((i : Int) ∈ xs.take (j + 1)) := by
  rw [List.take_add_one, hx]
  by_cases e : i = x.toNat
  · rw [if_pos e]
    symm
    rw [decide_eq_true_eq, List.mem_append]
    right
    simp
    omega
  · rw [if_neg e, Bool.eq_iff_iff, decide_eq_true_eq, decide_eq_true_eq, List.mem_append]
    constructor
    · intro h; exact .inl h
    · intro h
      rcases h with h | h
      · exact h
      · simp at h; omega
/-- Each point as p and then as q does. -/
def comp (p q : List Int) : List Int := p.map fun x => q.getD x.toNat 0
theorem comp_len (p q : List Int) : (comp p q).length = p.length := by simp [comp]
theorem comp_get {p q : List Int} {j : Nat} {x y : Int} (hx : p[j]? = some x) (h0 : 0 ≤ x) (hy : q[x.toNat]? = some y) : (comp p q)[j]? = some y := by
  simp [comp, hx, List.getD, hy]
/-- The coloring to which p carries l, after the first j points. -/
def actTo (p l : List Int) : Nat → List Int
  | 0 => List.replicate l.length 0
  | j + 1 => match p[j]?, l[j]? with
    | some x, some y => (actTo p l j).set x.toNat y
    | _, _ => actTo p l j
def act (p l : List Int) : List Int := actTo p l l.length
theorem actTo_len (p l : List Int) : ∀ j, (actTo p l j).length = l.length
  | 0 => by simp [actTo]
  | j + 1 => by
    simp only [actTo]
    split
    · rw [List.length_set, actTo_len p l j]
    · exact actTo_len p l j
theorem act_len (p l : List Int) : (act p l).length = l.length := actTo_len p l _
/-- In strictly ascending order. -/
def Asc (g : List (List Int)) : Prop := ∀ (i j : Nat) (a b : List Int), i < j → g[i]? = some a → g[j]? = some b → Words.cmpL a b < 0
/-- The place of p, or -1. -/
def idx (g : List (List Int)) (p : List Int) : Int := if p ∈ g then (g.idxOf p : Int) else -1
/-- Before i all rows are less than p, from j on none is. -/
def Cut (g : List (List Int)) (p : List Int) (i j : Nat) : Prop := (∀ k x, k < i → g[k]? = some x → Words.cmpL x p < 0) ∧ (∀ k x, j ≤ k → g[k]? = some x → ¬ Words.cmpL x p < 0)
theorem Cut.start (g : List (List Int)) (p : List Int) : Cut g p 0 g.length :=
  ⟨fun k x h => by omega, fun k x h hx => by have := (List.getElem?_eq_some_iff.1 hx).1; omega⟩
theorem Cut.up {g : List (List Int)} {p xs : List Int} {i j m : Nat} (h : Cut g p i j) (hs : Asc g) (hx : g[m]? = some xs) (hc : Words.cmpL xs p < 0) : Cut g p (m + 1) j := by
  refine ⟨fun k y hk hy => ?_, h.2⟩
  by_cases e : k = m
  · subst e; rw [hx] at hy; cases hy; exact hc
  · exact Words.cmpL_trans (hs k m y xs (by omega) hy hx) hc
theorem Cut.down {g : List (List Int)} {p xs : List Int} {i j m : Nat} (h : Cut g p i j) (hs : Asc g) (hx : g[m]? = some xs) (hc : ¬ Words.cmpL xs p < 0) : Cut g p i m := by
  refine ⟨h.1, fun k y hk hy hlt => ?_⟩
  by_cases e : k = m
  · subst e; rw [hx] at hy; cases hy; exact hc hlt
  · exact hc (Words.cmpL_trans (hs m k xs y (by omega) hx hy) hlt)
theorem Asc.inj {g : List (List Int)} (hs : Asc g) {i j : Nat} {x : List Int} (hi : g[i]? = some x) (hj : g[j]? = some x) : i = j := by
  rcases Nat.lt_trichotomy i j with h | h | h
  · have := hs i j x x h hi hj; rw [Words.cmpL_self] at this; omega
  · exact h
  · have := hs j i x x h hj hi; rw [Words.cmpL_self] at this; omega
theorem idx_at {g : List (List Int)} (hs : Asc g) {i : Nat} {p : List Int} (hp : g[i]? = some p) : idx g p = i := by
  have hm : p ∈ g := List.mem_of_getElem? hp
  unfold idx
  rw [if_pos hm]
  have hl : g.idxOf p < g.length := List.idxOf_lt_length_iff.2 hm
  have hg : g[g.idxOf p]? = some p := by
    rw [List.getElem?_eq_getElem hl, List.getElem_idxOf]
  rw [hs.inj hg hp]
theorem Cut.found {g : List (List Int)} {p : List Int} {i j : Nat} (_h : Cut g p i j) (hs : Asc g) (hp : g[i]? = some p) : idx g p = i := idx_at hs hp
theorem Cut.missed {g : List (List Int)} {p : List Int} {i : Nat} (h : Cut g p i i) (hs : Asc g) (hp : ∀ y, g[i]? = some y → y ≠ p) : idx g p = -1 := by
  unfold idx
  rw [if_neg]
  intro hm
  obtain ⟨k, hk, e⟩ := List.mem_iff_getElem.1 hm
  have hg : g[k]? = some p := by rw [List.getElem?_eq_getElem hk, e]
  have h0 := Words.cmpL_self p
  rcases Nat.lt_trichotomy k i with hlt | heq | hgt
  · have := h.1 k p hlt hg; omega
  · subst heq; exact hp p hg rfl
  · have hi : g[i]? = some g[i] := List.getElem?_eq_getElem (by omega)
    exact h.2 i _ (Nat.le_refl _) hi (hs i k _ p hgt hi hg)
def row0 (g : List (List Int)) : List Int := g.getD 0 []
/-- The first j rows are permutations of the degree of the first, ascending. -/
def rowsTo (g : List (List Int)) : Nat → Bool
  | 0 => true
  | j + 1 => rowsTo g j && (match g[j]? with
    | some p => permB p && decide (p.length = (row0 g).length) && (j == 0 || Words.less (g.getD (j - 1) []) p)
    | none => false)
def closed (g : List (List Int)) : Bool := g.all fun p => g.all fun q => decide (comp p q ∈ g)
def grpB (g : List (List Int)) : Bool := decide (1 ≤ g.length ∧ g.length ≤ 120) && rowsTo g g.length && closed g
theorem rowsTo_down {g : List (List Int)} : ∀ {n j : Nat}, j ≤ n → rowsTo g n = true → rowsTo g j = true
  | 0, j, h, k => by
    obtain rfl : j = 0 := by omega
    exact k
  | n + 1, j, h, k => by
    by_cases e : j = n + 1
    · subst e; exact k
    · simp only [rowsTo, Bool.and_eq_true] at k
      exact rowsTo_down (by omega) k.1
theorem rowsTo_bad {g : List (List Int)} {j : Nat} (hj : j < g.length) (h : rowsTo g (j + 1) = false) : rowsTo g g.length = false := by
  cases hc : rowsTo g g.length with
  | false => rfl
  | true => rw [rowsTo_down (by omega) hc] at h; cases h
theorem rowsTo_at {g : List (List Int)} {n j : Nat} {p : List Int} (h : rowsTo g n = true) (hj : j < n) (hp : g[j]? = some p) : permB p = true ∧ p.length = (row0 g).length ∧ (j = 0 ∨ Words.less (g.getD (j - 1) []) p = true) := by
  have h1 := rowsTo_down (show j + 1 ≤ n by omega) h
  simp only [rowsTo, hp, Bool.and_eq_true, decide_eq_true_eq, Bool.or_eq_true, beq_iff_eq] at h1
  exact ⟨h1.2.1.1, h1.2.1.2, h1.2.2⟩
theorem rowsTo_len {g : List (List Int)} {n j : Nat} {p q : List Int} (h : rowsTo g n = true) (h0 : g[0]? = some p) (hj : j < n) (hq : g[j]? = some q) : q.length = p.length := by
  have := (rowsTo_at h hj hq).2.1
  rw [this]
  simp [row0, List.getD, h0]
theorem permB_len {p : List Int} (h : permB p = true) : 1 ≤ p.length ∧ p.length ≤ 10 := by
  simp only [permB, Bool.and_eq_true, decide_eq_true_eq] at h
  exact h.1
theorem permB_ok {p : List Int} (h : permB p = true) : okTo p p.length = true := by
  simp only [permB, Bool.and_eq_true, decide_eq_true_eq] at h
  exact h.2
theorem permB_range {p : List Int} (h : permB p = true) : ∀ x ∈ p, 0 ≤ x ∧ x < p.length := by
  intro x hx
  obtain ⟨k, hk, e⟩ := List.mem_iff_getElem.1 hx
  have h1 := okTo_down (show k + 1 ≤ p.length by omega) (permB_ok h)
  simp only [okTo, List.getElem?_eq_getElem hk, Bool.and_eq_true, decide_eq_true_eq] at h1
  rw [← e]
  exact ⟨h1.2.1.1, h1.2.1.2⟩
theorem rowsTo_mem {g : List (List Int)} {p : List Int} (h : rowsTo g g.length = true) (hp : p ∈ g) : permB p = true ∧ p.length = (row0 g).length := by
  obtain ⟨k, hk, e⟩ := List.mem_iff_getElem.1 hp
  have := rowsTo_at h hk (by rw [List.getElem?_eq_getElem hk, e])
  exact ⟨this.1, this.2.1⟩
theorem rowsTo_le {g : List (List Int)} {j : Nat} {p : List Int} (h : rowsTo g g.length = true) (hp : g[j]? = some p) : p.length ≤ 1048576 := by
  have := permB_len (rowsTo_mem h (List.mem_of_getElem? hp)).1
  omega
theorem rowsTo_in {g : List (List Int)} {i j : Nat} {p q : List Int} (h : rowsTo g g.length = true) (hp : g[i]? = some p) (hq : g[j]? = some q) : ∀ x ∈ p, 0 ≤ x ∧ x < q.length := by
  have h1 := rowsTo_mem h (List.mem_of_getElem? hp)
  have h2 := rowsTo_mem h (List.mem_of_getElem? hq)
  intro x hx
  have := permB_range h1.1 x hx
  omega
theorem rowsTo_same {g : List (List Int)} {j : Nat} {x p : List Int} (h : rowsTo g g.length = true) (hx : x ∈ g) (hp : g[j]? = some p) : x.length = p.length := by
  rw [(rowsTo_mem h hx).2, (rowsTo_mem h (List.mem_of_getElem? hp)).2]
theorem rowsTo_asc {g : List (List Int)} (h : rowsTo g g.length = true) : Asc g := by
  have step : ∀ j a b, g[j]? = some a → g[j + 1]? = some b → Words.cmpL a b < 0 := by
    intro j a b ha hb
    have hl := (List.getElem?_eq_some_iff.1 hb).1
    have h1 := (rowsTo_at h hl hb).2.2
    rw [Nat.add_sub_cancel] at h1
    rcases h1 with h1 | h1
    · omega
    · have e : g.getD j [] = a := by simp [List.getD, ha]
      rw [e] at h1
      exact (Words.less_neg (rowsTo_same h (List.mem_of_getElem? ha) hb)).1 h1
  intro i j a b hij ha hb
  induction j generalizing b with
  | zero => omega
  | succ j ih =>
    by_cases e : i = j
    · subst e; exact step i a b ha hb
    · have hl := (List.getElem?_eq_some_iff.1 hb).1
      have hc : g[j]? = some g[j] := List.getElem?_eq_getElem (by omega)
      exact Words.cmpL_trans (ih _ (by omega) hc) (step j _ b hc hb)
theorem closed_ok {g : List (List Int)} (h : ∀ p ∈ g, ∀ q ∈ g, comp p q ∈ g) : closed g = true := by
  simp only [closed, List.all_eq_true, decide_eq_true_eq]
  exact h
theorem closed_mem {g : List (List Int)} (h : closed g = true) : ∀ p ∈ g, ∀ q ∈ g, comp p q ∈ g := by
  simp only [closed, List.all_eq_true, decide_eq_true_eq] at h
  exact h
theorem closed_bad {g : List (List Int)} {p q : List Int} (hp : p ∈ g) (hq : q ∈ g) (h : comp p q ∉ g) : closed g = false := by
  cases hc : closed g with
  | false => rfl
  | true => exact absurd (closed_mem hc p hp q hq) h
end Go.Proofs.Ytdjdagcgodpgdaa.Perms
/- Patterns: the least coloring to which a group carries one, and what keeps it. -/
set_option linter.unusedVariables false
namespace Go.Proofs.Ytdjdagcgodpgdaa.Perms

/-- The group and the coloring fit, as far as the walks need it. -/
def Fit (g : List (List Int)) (l : List Int) : Prop := (∀ p ∈ g, p.length = l.length ∧ ∀ x ∈ p, 0 ≤ x ∧ x < l.length) ∧ l.length ≤ 10 ∧ g.length ≤ 120
def canonTo (g : List (List Int)) (l : List Int) : Nat → List Int
  | 0 => l
  | j + 1 => match g[j]? with
    | some p => if Words.cmpL (act p l) (canonTo g l j) < 0 then act p l else canonTo g l j
    | none => canonTo g l j
def canon (g : List (List Int)) (l : List Int) : List Int := canonTo g l g.length
theorem canonTo_step {g : List (List Int)} {l p : List Int} {j : Nat} (hp : g[j]? = some p) : canonTo g l (j + 1) = if Words.cmpL (act p l) (canonTo g l j) < 0 then act p l else canonTo g l j := by
  simp only [canonTo]; rw [hp]
theorem canonTo_len (g : List (List Int)) (l : List Int) : ∀ j, (canonTo g l j).length = l.length
  | 0 => rfl
  | j + 1 => by
    simp only [canonTo]
    split
    · split
      · exact act_len _ _
      · exact canonTo_len g l j
    · exact canonTo_len g l j
theorem canon_len (g : List (List Int)) (l : List Int) : (canon g l).length = l.length := canonTo_len g l _
def fitsB (g : List (List Int)) (l : List Int) : Bool := grpB g && Words.okW l && decide (l.length = (row0 g).length)
theorem grpB_parts {g : List (List Int)} (h : grpB g = true) : 1 ≤ g.length ∧ g.length ≤ 120 ∧ rowsTo g g.length = true ∧ closed g = true := by
  unfold grpB at h
  simp only [Bool.and_eq_true, decide_eq_true_eq] at h
  exact ⟨h.1.1.1, h.1.1.2, h.1.2, h.2⟩
theorem fitsB_parts {g : List (List Int)} {l : List Int} (h : fitsB g l = true) : grpB g = true ∧ Words.okW l = true ∧ l.length = (row0 g).length := by
  unfold fitsB at h
  simp only [Bool.and_eq_true, decide_eq_true_eq] at h
  exact ⟨h.1.1, h.1.2, h.2⟩
/-- A group acts on what is as long as its rows. -/
theorem grp_fit {g : List (List Int)} {l : List Int} (h : grpB g = true) (hl : l.length = (row0 g).length) : Fit g l := by
  obtain ⟨h1, h2, h3, h4⟩ := grpB_parts h
  have each : ∀ p ∈ g, p.length = l.length ∧ ∀ x ∈ p, 0 ≤ x ∧ x < l.length := fun p hp => by
    obtain ⟨a, b⟩ := rowsTo_mem h3 hp
    have e : p.length = l.length := by omega
    exact ⟨e, fun x hx => by rw [← e]; exact permB_range a x hx⟩
  refine ⟨each, ?_, h2⟩
  obtain ⟨p, hp⟩ : ∃ p, p ∈ g := ⟨_, List.getElem_mem (show 0 < g.length by omega)⟩
  have := permB_len (rowsTo_mem h3 hp).1
  have := (each p hp).1
  omega
theorem fitsB_fit {g : List (List Int)} {l : List Int} (h : fitsB g l = true) : Fit g l := by
  obtain ⟨h1, h2, h3⟩ := fitsB_parts h
  exact grp_fit h1 h3
def canonW (g : List (List Int)) (l : List Int) : List Int := if fitsB g l = true then canon g l else []
theorem canonW_len (g : List (List Int)) (l : List Int) : (canonW g l).length ≤ 10 := by
  unfold canonW
  split
  · rename_i h
    rw [canon_len]; exact (fitsB_fit h).2.1
  · simp
def canonB (g : List (List Int)) (l : List Int) : Bool := fitsB g l && decide (canonW g l = l)
def sameB (g : List (List Int)) (a b : List Int) : Bool := fitsB g a && fitsB g b && decide (canonW g a = canonW g b)
def keepTo (g : List (List Int)) (l : List Int) (j : Nat) : List (List Int) := (g.take j).filter fun p => decide (act p l = l)
def keep (g : List (List Int)) (l : List Int) : List (List Int) := g.filter fun p => decide (act p l = l)
theorem keepTo_step {g : List (List Int)} {l p : List Int} {j : Nat} (hp : g[j]? = some p) : keepTo g l (j + 1) = keepTo g l j ++ (if act p l = l then [p] else []) := by
  unfold keepTo
  rw [List.take_add_one, hp, List.filter_append]
  by_cases h : act p l = l <;> simp [h]
theorem keepTo_all (g : List (List Int)) (l : List Int) {j : Nat} (hj : g.length ≤ j) : keepTo g l j = keep g l := by
  unfold keepTo keep; rw [List.take_of_length_le hj]
theorem keepTo_len (g : List (List Int)) (l : List Int) (j : Nat) : (keepTo g l j).length ≤ g.length := by
  unfold keepTo
  have h1 := List.length_filter_le (fun p => decide (act p l = l)) (g.take j)
  rw [List.length_take] at h1
  omega
def keepW (g : List (List Int)) (l : List Int) : List (List Int) := if fitsB g l = true then keep g l else []
end Go.Proofs.Ytdjdagcgodpgdaa.Perms
/- Orbits and what keeps: a group's order is the number of images times the number of keepers. -/
set_option linter.unusedVariables false
namespace Go.Proofs.Ytdjdagcgodpgdaa.Perms

theorem mem_erase' {α : Type} [DecidableEq α] {x y : α} {a b : List α} (h1 : x ∉ a) (hy : y ∈ a) (hb : y ∈ b) : y ∈ b.erase x := (List.mem_erase_of_ne (by intro e; subst e; exact h1 hy)).2 hb
theorem nodup_inj {α : Type} {l : List α} (h : l.Nodup) {i j : Nat} {x : α} (hi : l[i]? = some x) (hj : l[j]? = some x) : i = j := by
  unfold List.Nodup at h
  rw [List.pairwise_iff_getElem] at h
  obtain ⟨a1, a2⟩ := List.getElem?_eq_some_iff.1 hi
  obtain ⟨b1, b2⟩ := List.getElem?_eq_some_iff.1 hj
  rcases Nat.lt_trichotomy i j with e | e | e
  · exact absurd (a2.trans b2.symm) (h i j a1 b1 e)
  · exact e
  · exact absurd (b2.trans a2.symm) (h j i b1 a1 e)
theorem subset_len {α : Type} [DecidableEq α] : ∀ {a b : List α}, a.Nodup → (∀ x ∈ a, x ∈ b) → a.length ≤ b.length
  | [], _, _, _ => Nat.zero_le _
  | x :: a, b, hn, hs => by
    obtain ⟨h1, h2⟩ := List.nodup_cons.1 hn
    have hx := hs x (by simp)
    have := subset_len (b := b.erase x) h2 fun y hy => mem_erase' h1 hy (hs y (by simp [hy]))
    rw [List.length_erase_of_mem hx] at this
    have : 0 < b.length := List.length_pos_of_mem hx
    simp only [List.length_cons]
    omega
theorem subset_back {α : Type} [DecidableEq α] : ∀ {a b : List α}, a.Nodup → (∀ x ∈ a, x ∈ b) → b.length ≤ a.length → ∀ y ∈ b, y ∈ a
  | [], b, _, _, hl, y, hy => by have := List.length_pos_of_mem hy; simp only [List.length_nil] at hl; omega
  | x :: a, b, hn, hs, hl, y, hy => by
    obtain ⟨h1, h2⟩ := List.nodup_cons.1 hn
    have hx := hs x (by simp)
    by_cases e : y = x
    · simp [e]
    have hy' : y ∈ b.erase x := (List.mem_erase_of_ne e).2 hy
    have := subset_back (b := b.erase x) h2 (fun z hz => mem_erase' h1 hz (hs z (by simp [hz]))) (by
      rw [List.length_erase_of_mem hx]; simp only [List.length_cons] at hl; omega) y hy'
    simp [this]
theorem nodup_map_on {α β : Type} {f : α → β} : ∀ {l : List α}, l.Nodup → (∀ x ∈ l, ∀ y ∈ l, f x = f y → x = y) → (l.map f).Nodup
  | [], _, _ => by simp
  | x :: l, hn, hi => by
    obtain ⟨h1, h2⟩ := List.nodup_cons.1 hn
    rw [List.map_cons, List.nodup_cons]
    refine ⟨fun hm => ?_, nodup_map_on h2 fun a ha b hb => hi a (by simp [ha]) b (by simp [hb])⟩
    obtain ⟨z, hz, e⟩ := List.mem_map.1 hm
    have := hi z (by simp [hz]) x (by simp) e
    exact h1 (this ▸ hz)
theorem inj_len {α β : Type} [DecidableEq β] {f : α → β} {a : List α} {b : List β} (hn : a.Nodup) (hm : ∀ x ∈ a, f x ∈ b) (hi : ∀ x ∈ a, ∀ y ∈ a, f x = f y → x = y) : a.length ≤ b.length := by
  have := subset_len (b := b) (nodup_map_on hn hi) (fun y hy => by
    obtain ⟨x, hx, rfl⟩ := List.mem_map.1 hy
    exact hm x hx)
  rwa [List.length_map] at this
theorem inj_surj {α : Type} [DecidableEq α] {f : α → α} {a : List α} (hn : a.Nodup) (hm : ∀ x ∈ a, f x ∈ a) (hi : ∀ x ∈ a, ∀ y ∈ a, f x = f y → x = y) : ∀ y ∈ a, ∃ x ∈ a, f x = y := fun y hy => by
  have := subset_back (b := a) (nodup_map_on hn hi) (fun y hy => by
    obtain ⟨x, hx, rfl⟩ := List.mem_map.1 hy
    exact hm x hx) (by rw [List.length_map]; exact Nat.le_refl _) y hy
  exact List.mem_map.1 this
theorem fibers {α β : Type} [DecidableEq β] {f : α → β} {m : Nat} : ∀ {ys : List β} {g : List α}, ys.Nodup → (∀ x ∈ g, f x ∈ ys) → (∀ y ∈ ys, (g.filter fun x => decide (f x = y)).length = m) → g.length = ys.length * m
  | [], g, _, hm, _ => by
    cases g with
    | nil => simp
    | cons x g => exact absurd (hm x (by simp)) (by simp)
  | y :: ys, g, hn, hm, hc => by
    obtain ⟨h1, h2⟩ := List.nodup_cons.1 hn
    have ih := fibers (f := f) (m := m) (ys := ys) (g := g.filter fun x => !decide (f x = y)) h2 (fun x hx => by
      obtain ⟨hx1, hx2⟩ := List.mem_filter.1 hx
      have := hm x hx1
      simp at hx2
      rcases List.mem_cons.1 this with e | e
      · exact absurd e hx2
      · exact e) (fun z hz => by
      rw [List.filter_filter, ← hc z (by simp [hz])]
      congr 1
      apply List.filter_congr
      intro x _
      by_cases e : f x = z
      · have : z ≠ y := fun e => h1 (e ▸ hz)
        simp [e, this]
      · simp [e])
    have e0 := hc y (by simp)
    have split : ∀ (l : List α), l.length = (l.filter fun x => decide (f x = y)).length + (l.filter fun x => !decide (f x = y)).length := by
      intro l
      induction l with
      | nil => rfl
      | cons x l ihl =>
        by_cases e : f x = y <;> simp [e, ihl] <;> omega
    rw [split g, ih, e0, List.length_cons, Nat.succ_mul, Nat.add_comm]

/-! ### permutations -/
theorem okTo_nodup {xs : List Int} : ∀ {n : Nat}, n ≤ xs.length → okTo xs n = true → (xs.take n).Nodup
  | 0, _, _ => by simp
  | n + 1, hl, h => by
    have hd := okTo_down (Nat.le_succ n) h
    obtain ⟨x, hx⟩ : ∃ x, xs[n]? = some x := ⟨_, List.getElem?_eq_getElem (by omega)⟩
    rw [List.take_add_one, hx]
    simp only [okTo, hx] at h
    have ih := okTo_nodup (by omega) hd
    simp at h
    obtain ⟨_, _, hni⟩ := h
    rw [List.nodup_append]
    refine ⟨ih, by simp, ?_⟩
    intro a ha b hb e
    simp at hb
    subst hb
    subst e
    exact hni ha
theorem permB_nodup {p : List Int} (h : permB p = true) : p.Nodup := by
  have := okTo_nodup (Nat.le_refl _) (permB_ok h)
  rwa [List.take_length] at this
/-- A permutation reaches each point. -/
theorem permB_surj {p : List Int} (h : permB p = true) {k : Nat} (hk : k < p.length) : ∃ i : Nat, p[i]? = some (k : Int) := by
  have := subset_back (b := (List.range p.length).map fun (n : Nat) => (n : Int)) (permB_nodup h) (fun x hx => by
    obtain ⟨h0, h1⟩ := permB_range h x hx
    exact List.mem_map.2 ⟨x.toNat, by rw [List.mem_range]; omega, by omega⟩) (by simp) k (List.mem_map.2 ⟨k, List.mem_range.2 hk, rfl⟩)
  exact List.getElem?_of_mem this
theorem actTo_at {p l : List Int} (hn : p.Nodup) (hl : p.length = l.length) (hr : ∀ x ∈ p, 0 ≤ x ∧ x < l.length) {i : Nat} {x y : Int} (hx : p[i]? = some x) (hy : l[i]? = some y) :
    ∀ {j : Nat}, i < j → j ≤ l.length → (actTo p l j)[x.toNat]? = some y
  | 0, h, _ => absurd h (Nat.not_lt_zero _)
  | j + 1, h, hj => by
    obtain ⟨x2, hx2⟩ : ∃ x2, p[j]? = some x2 := ⟨_, List.getElem?_eq_getElem (by omega)⟩
    obtain ⟨y2, hy2⟩ : ∃ y2, l[j]? = some y2 := ⟨_, List.getElem?_eq_getElem (by omega)⟩
    simp only [actTo, hx2, hy2]
    have hxr := hr x (List.mem_of_getElem? hx)
    have hxr2 := hr x2 (List.mem_of_getElem? hx2)
    by_cases e : i = j
    · subst e
      rw [hx] at hx2; rw [hy] at hy2
      cases hx2; cases hy2
      rw [List.getElem?_set_self (by rw [actTo_len]; omega)]
    · have hne : x ≠ x2 := fun e2 => by
        subst e2
        exact e (nodup_inj hn hx hx2)
      rw [List.getElem?_set_ne (by omega)]
      exact actTo_at hn hl hr hx hy (by omega) (by omega)
theorem act_at {p l : List Int} (h : permB p = true) (hl : p.length = l.length) {i : Nat} {x y : Int} (hx : p[i]? = some x) (hy : l[i]? = some y) : (act p l)[x.toNat]? = some y :=
  actTo_at (permB_nodup h) hl (fun z hz => by rw [← hl]; exact permB_range h z hz) hx hy (List.getElem?_eq_some_iff.1 hy).1 (Nat.le_refl _)
theorem at_some {l : List Int} {n i : Nat} (hl : l.length = n) (hi : i < n) : ∃ y, l[i]? = some y := ⟨_, List.getElem?_eq_getElem (by omega)⟩
/-- Lists of one length that agree at each point of a permutation. -/
theorem perm_ext {p a b : List Int} (h : permB p = true) (ha : a.length = p.length) (hb : b.length = p.length) (he : ∀ (i : Nat) (x : Int), p[i]? = some x → a[x.toNat]? = b[x.toNat]?) : a = b := by
  apply List.ext_getElem?
  intro k
  by_cases hk : k < p.length
  · obtain ⟨i, hi⟩ := permB_surj h hk
    have := he i _ hi
    simpa using this
  · rw [List.getElem?_eq_none (by omega), List.getElem?_eq_none (by omega)]
theorem act_comp {p q l : List Int} (hp : permB p = true) (hq : permB q = true) (hc : permB (comp p q) = true) (hpl : p.length = l.length) (hql : q.length = l.length) : act (comp p q) l = act q (act p l) := by
  refine perm_ext hc (by rw [act_len, comp_len, hpl]) (by rw [act_len, act_len, comp_len, hpl]) fun i z hz => ?_
  have hi : i < p.length := by have := (List.getElem?_eq_some_iff.1 hz).1; rwa [comp_len] at this
  obtain ⟨x, hx⟩ := at_some rfl hi
  obtain ⟨y, hy⟩ := at_some hpl.symm hi
  obtain ⟨hx0, hx1⟩ := permB_range hp x (List.mem_of_getElem? hx)
  obtain ⟨z2, hz2⟩ := at_some (i := x.toNat) rfl (show x.toNat < q.length by omega)
  have e := comp_get hx hx0 hz2
  rw [hz] at e
  obtain rfl := Option.some.inj e
  rw [act_at hc (by rw [comp_len, hpl]) hz hy, act_at hq (by rw [act_len, hql]) hz2 (act_at hp hpl hx hy)]

/-! ### groups -/
/-- What the proofs use of a group of degree n. -/
structure Grp (g : List (List Int)) (n : Nat) : Prop where
  nodup : g.Nodup
  perm : ∀ p ∈ g, permB p = true
  len : ∀ p ∈ g, p.length = n
  mul : ∀ p ∈ g, ∀ q ∈ g, comp p q ∈ g
theorem Asc.nodup {g : List (List Int)} (h : Asc g) : g.Nodup := by
  unfold List.Nodup
  rw [List.pairwise_iff_getElem]
  intro i j hi hj hij e
  have := h i j _ _ hij (List.getElem?_eq_getElem hi) (List.getElem?_eq_getElem hj)
  rw [e, Words.cmpL_self] at this
  omega
theorem grpB_grp {g : List (List Int)} (h : grpB g = true) : Grp g (row0 g).length := by
  obtain ⟨h1, h2, h3, h4⟩ := grpB_parts h
  exact ⟨(rowsTo_asc h3).nodup, fun p hp => (rowsTo_mem h3 hp).1, fun p hp => (rowsTo_mem h3 hp).2, closed_mem h4⟩
def iota (n : Nat) : List Int := (List.range n).map fun (k : Nat) => (k : Int)
theorem iota_len (n : Nat) : (iota n).length = n := by simp [iota]
theorem iota_get {n i : Nat} (hi : i < n) : (iota n)[i]? = some (i : Int) := by simp [iota, hi]
theorem Grp.val {g : List (List Int)} {n : Nat} (G : Grp g n) {p : List Int} (hp : p ∈ g) {i : Nat} {x : Int} (hx : p[i]? = some x) : 0 ≤ x ∧ x.toNat < n := by
  have := permB_range (G.perm p hp) x (List.mem_of_getElem? hx)
  have := G.len p hp
  omega
theorem Grp.inj {g : List (List Int)} {n : Nat} (G : Grp g n) {p : List Int} (hp : p ∈ g) {i j : Nat} {x : Int} (hi : p[i]? = some x) (hj : p[j]? = some x) : i = j := nodup_inj (permB_nodup (G.perm p hp)) hi hj
theorem Grp.right {g : List (List Int)} {n : Nat} (G : Grp g n) {p q r : List Int} (hp : p ∈ g) (hq : q ∈ g) (hr : r ∈ g) (e : comp q p = comp r p) : q = r := by
  apply List.ext_getElem?
  intro i
  have hql := G.len q hq
  have hrl := G.len r hr
  have hpl := G.len p hp
  by_cases hi : i < n
  · obtain ⟨x, hx⟩ := at_some hql hi
    obtain ⟨y, hy⟩ := at_some hrl hi
    obtain ⟨x0, x1⟩ := G.val hq hx
    obtain ⟨y0, y1⟩ := G.val hr hy
    obtain ⟨z, hz⟩ := at_some hpl x1
    obtain ⟨u, hu⟩ := at_some hpl y1
    have a := comp_get hx x0 hz
    have b := comp_get hy y0 hu
    rw [e, b] at a
    cases a
    have := G.inj hp hz hu
    rw [hx, hy]
    congr 1
    omega
  · rw [List.getElem?_eq_none (by omega), List.getElem?_eq_none (by omega)]
theorem Grp.left {g : List (List Int)} {n : Nat} (G : Grp g n) {p q r : List Int} (hp : p ∈ g) (hq : q ∈ g) (hr : r ∈ g) (e : comp p q = comp p r) : q = r := by
  have hpl := G.len p hp
  refine perm_ext (G.perm p hp) (by rw [G.len q hq, hpl]) (by rw [G.len r hr, hpl]) fun i x hx => ?_
  obtain ⟨x0, x1⟩ := G.val hp hx
  obtain ⟨z, hz⟩ := at_some (G.len q hq) x1
  obtain ⟨u, hu⟩ := at_some (G.len r hr) x1
  have a := comp_get hx x0 hz
  have b := comp_get hx x0 hu
  rw [e, b] at a
  rw [hz, hu, a]
theorem Grp.one {g : List (List Int)} {n : Nat} (G : Grp g n) (h0 : g ≠ []) : iota n ∈ g := by
  obtain ⟨p, hp⟩ := List.exists_mem_of_ne_nil g h0
  obtain ⟨e, he, hep⟩ := inj_surj (f := fun q => comp q p) G.nodup (fun q hq => G.mul q hq p hp) (fun q hq r hr h => G.right hp hq hr h) p hp
  have : e = iota n := by
    apply List.ext_getElem?
    intro i
    by_cases hi : i < n
    · obtain ⟨x, hx⟩ := at_some (G.len e he) hi
      obtain ⟨x0, x1⟩ := G.val he hx
      obtain ⟨z, hz⟩ := at_some (G.len p hp) x1
      have a := comp_get hx x0 hz
      rw [show comp e p = p from hep] at a
      have := G.inj hp a hz
      rw [hx, iota_get hi]
      congr 1
      omega
    · rw [List.getElem?_eq_none (by rw [G.len e he]; omega), List.getElem?_eq_none (by rw [iota_len]; omega)]
  exact this ▸ he
theorem Grp.inv {g : List (List Int)} {n : Nat} (G : Grp g n) {p : List Int} (hp : p ∈ g) : ∃ q ∈ g, comp p q = iota n := by
  have h1 := G.one (List.ne_nil_of_mem hp)
  exact inj_surj (f := fun q => comp p q) G.nodup (fun q hq => G.mul p hp q hq) (fun q hq r hr h => G.left hp hq hr h) _ h1
theorem Grp.inv' {g : List (List Int)} {n : Nat} (G : Grp g n) {p : List Int} (hp : p ∈ g) : ∃ q ∈ g, comp q p = iota n := by
  have h1 := G.one (List.ne_nil_of_mem hp)
  exact inj_surj (f := fun q => comp q p) G.nodup (fun q hq => G.mul q hq p hp) (fun q hq r hr h => G.right hp hq hr h) _ h1
theorem Grp.act_mul {g : List (List Int)} {n : Nat} (G : Grp g n) {p q l : List Int} (hp : p ∈ g) (hq : q ∈ g) (hl : l.length = n) : act (comp p q) l = act q (act p l) :=
  act_comp (G.perm p hp) (G.perm q hq) (G.perm _ (G.mul p hp q hq)) (by rw [G.len p hp, hl]) (by rw [G.len q hq, hl])
theorem Grp.act_one {g : List (List Int)} {n : Nat} (G : Grp g n) (h0 : g ≠ []) {l : List Int} (hl : l.length = n) : act (iota n) l = l := by
  have h1 := G.perm _ (G.one h0)
  refine perm_ext h1 (by rw [act_len, iota_len, hl]) (by rw [iota_len, hl]) fun i x hx => ?_
  have hi : i < n := by have := (List.getElem?_eq_some_iff.1 hx).1; rwa [iota_len] at this
  obtain ⟨y, hy⟩ := at_some hl hi
  rw [act_at h1 (by rw [iota_len, hl]) hx hy]
  rw [iota_get hi] at hx
  cases hx
  simpa using hy.symm
theorem Grp.act_inj {g : List (List Int)} {n : Nat} (G : Grp g n) {p a b : List Int} (hp : p ∈ g) (ha : a.length = n) (hb : b.length = n) (e : act p a = act p b) : a = b := by
  obtain ⟨q, hq, hpq⟩ := G.inv hp
  have h0 := List.ne_nil_of_mem hp
  rw [← G.act_one h0 ha, ← G.act_one h0 hb, ← hpq, G.act_mul hp hq ha, G.act_mul hp hq hb, e]
theorem keep_mem {g : List (List Int)} {l p : List Int} : p ∈ keep g l ↔ p ∈ g ∧ act p l = l := by unfold keep; simp
theorem Grp.keep_pos {g : List (List Int)} {n : Nat} (G : Grp g n) (h0 : g ≠ []) {l : List Int} (hl : l.length = n) : 0 < (keep g l).length :=
  List.length_pos_of_mem (keep_mem.2 ⟨G.one h0, G.act_one h0 hl⟩)
theorem Grp.fiber {g : List (List Int)} {n : Nat} (G : Grp g n) {p l : List Int} (hp : p ∈ g) (hl : l.length = n) : (g.filter fun x => decide (act x l = act p l)).length = (keep g l).length := by
  obtain ⟨q, hq, hpq⟩ := G.inv hp
  have h0 := List.ne_nil_of_mem hp
  apply Nat.le_antisymm
  · refine inj_len (f := fun x => comp x q) (G.nodup.sublist List.filter_sublist) (fun x hx => ?_) (fun x hx y hy e => G.right hq (List.mem_filter.1 hx).1 (List.mem_filter.1 hy).1 e)
    obtain ⟨h1, h2⟩ := List.mem_filter.1 hx
    have h2 := of_decide_eq_true h2
    exact keep_mem.2 ⟨G.mul x h1 q hq, by rw [G.act_mul h1 hq hl, h2, ← G.act_mul hp hq hl, hpq, G.act_one h0 hl]⟩
  · refine inj_len (f := fun x => comp x p) (G.nodup.sublist List.filter_sublist) (fun x hx => ?_) (fun x hx y hy e => G.right hp (keep_mem.1 hx).1 (keep_mem.1 hy).1 e)
    obtain ⟨h1, h2⟩ := keep_mem.1 hx
    exact List.mem_filter.2 ⟨G.mul x h1 p hp, decide_eq_true (by rw [G.act_mul h1 hp hl, h2])⟩
/-- The images of a coloring, in the order in which the group reaches them. -/
def imTo (g : List (List Int)) (l : List Int) : Nat → List (List Int)
  | 0 => []
  | j + 1 => match g[j]? with
    | some p => if act p l ∈ imTo g l j then imTo g l j else imTo g l j ++ [act p l]
    | none => imTo g l j
def im (g : List (List Int)) (l : List Int) : List (List Int) := imTo g l g.length
theorem imTo_step {g : List (List Int)} {l p : List Int} {j : Nat} (hp : g[j]? = some p) : imTo g l (j + 1) = if act p l ∈ imTo g l j then imTo g l j else imTo g l j ++ [act p l] := by
  simp only [imTo]; rw [hp]
theorem imTo_nodup (g : List (List Int)) (l : List Int) : ∀ j, (imTo g l j).Nodup
  | 0 => by simp [imTo]
  | j + 1 => by
    have ih := imTo_nodup g l j
    simp only [imTo]
    split
    · split
      · exact ih
      · rename_i h
        rw [List.nodup_append]
        refine ⟨ih, by simp, ?_⟩
        intro a ha b hb e
        simp at hb
        subst hb; subst e
        exact h ha
    · exact ih
theorem imTo_len (g : List (List Int)) (l : List Int) : ∀ j, (imTo g l j).length ≤ j
  | 0 => by simp [imTo]
  | j + 1 => by
    have ih := imTo_len g l j
    simp only [imTo]
    split
    · split
      · omega
      · simp; omega
    · omega
theorem imTo_mem {g : List (List Int)} {l y : List Int} : ∀ {j : Nat}, j ≤ g.length → (y ∈ imTo g l j ↔ ∃ p ∈ g.take j, act p l = y)
  | 0, _ => by simp [imTo]
  | j + 1, hj => by
    have ih := imTo_mem (g := g) (l := l) (y := y) (j := j) (by omega)
    obtain ⟨p, hp⟩ : ∃ p, g[j]? = some p := ⟨_, List.getElem?_eq_getElem (by omega)⟩
    rw [imTo_step hp, List.take_add_one, hp]
    constructor
    · intro h
      split at h
      · obtain ⟨q, h1, h2⟩ := ih.1 h
        exact ⟨q, by simp [h1], h2⟩
      · rcases List.mem_append.1 h with h | h
        · obtain ⟨q, h1, h2⟩ := ih.1 h
          exact ⟨q, by simp [h1], h2⟩
        · simp at h
          exact ⟨p, by simp, h.symm⟩
    · rintro ⟨q, h1, h2⟩
      rcases List.mem_append.1 h1 with h1 | h1
      · have := ih.2 ⟨q, h1, h2⟩
        split
        · exact this
        · exact List.mem_append_left _ this
      · simp at h1
        subst h1
        subst h2
        split
        · assumption
        · simp
theorem im_mem {g : List (List Int)} {l y : List Int} : y ∈ im g l ↔ ∃ p ∈ g, act p l = y := by
  unfold im; rw [imTo_mem (Nat.le_refl _), List.take_length]
/-- Images times keepers are the order. -/
theorem Grp.orbit {g : List (List Int)} {n : Nat} (G : Grp g n) {l : List Int} (hl : l.length = n) : g.length = (im g l).length * (keep g l).length :=
  fibers (f := fun p => act p l) (imTo_nodup g l _) (fun x hx => im_mem.2 ⟨x, hx, rfl⟩) fun y hy => by
    obtain ⟨p, hp, rfl⟩ := im_mem.1 hy
    exact G.fiber hp hl
def imagesN (g : List (List Int)) (l : List Int) : Nat := if fitsB g l = true then (im g l).length else 0
theorem images_div {g : List (List Int)} {l : List Int} (h : fitsB g l = true) : 0 < (keep g l).length ∧ g.length / (keep g l).length = (im g l).length := by
  obtain ⟨h1, h2, h3⟩ := fitsB_parts h
  have G := grpB_grp h1
  have h0 : g ≠ [] := List.ne_nil_of_length_pos (by have := (grpB_parts h1).1; omega)
  have hp := G.keep_pos h0 h3
  refine ⟨hp, ?_⟩
  rw [G.orbit h3, Nat.mul_div_cancel _ hp]
end Go.Proofs.Ytdjdagcgodpgdaa.Perms
/- Plain functions on numbers: no program in sight. -/
namespace Go.Proofs.Ytdjdagcgodpgdaa.Nums
def opp (a b : Int) : Bool := decide (0 ≤ a ∧ a < 6 ∧ 0 ≤ b ∧ b < 6 ∧ a ≠ b ∧ a / 2 = b / 2)
def sdeg (k : Int) : Int := if k = 1 then 4 else if k = 2 then 6 else if k = 3 then 6 else if k = 4 then 8 else 0

/-- The loop of Mobius: at most k rounds. -/
def mobAux : Nat → Int → Int → Int → Int
  | 0, _, _, s => s
  | k + 1, d, m, s => if m ≤ 1 then s else if m % d = 0 then (if m / d % d = 0 then 0 else mobAux k (d + 1) (m / d) (-s)) else mobAux k (d + 1) m s
def mob (n : Int) : Int := if 1 ≤ n ∧ n ≤ 1000 then mobAux 1000 2 n 1 else 0
/-- No number from 2 on below d divides m. -/
def Rough (d m : Int) : Prop := ∀ e : Int, 2 ≤ e → e < d → m % e ≠ 0
theorem rough_two (m : Int) : Rough 2 m := fun _ h1 h2 => absurd h1 (by omega)
theorem rough_le {d m : Int} (h : Rough d m) (hm : 1 < m) : d ≤ m := by
  apply Classical.byContradiction
  intro hc
  exact h m (by omega) (by omega) (Int.emod_self)
theorem rough_next {d m : Int} (h : Rough d m) (hd : m % d ≠ 0) : Rough (d + 1) m := fun e h1 h2 => by
  by_cases he : e = d
  · rw [he]; exact hd
  · exact h e h1 (by omega)
theorem rough_div {d m : Int} (h : Rough d m) (hdm : m % d = 0) (hd : m / d % d ≠ 0) : Rough (d + 1) (m / d) := fun e h1 h2 => by
  by_cases he : e = d
  · rw [he]; exact hd
  · intro hc
    refine h e h1 (by omega) ?_
    have e1 : m = d * (m / d) := by have := Int.mul_ediv_add_emod m d; omega
    rw [e1]
    exact Int.emod_eq_zero_of_dvd (Int.dvd_trans (Int.dvd_of_emod_eq_zero hc) (Int.dvd_mul_left _ _))
theorem div_pos {d m : Int} (hd0 : 2 ≤ d) (hm : 1 < m) (hdm : m % d = 0) : 1 ≤ m / d ∧ m / d ≤ m := by
  have e1 : m = d * (m / d) := by have := Int.mul_ediv_add_emod m d; omega
  have h0 : 0 ≤ m / d := Int.ediv_nonneg (by omega) (by omega)
  have h1 : m / d ≠ 0 := by intro h; rw [h] at e1; omega
  refine ⟨by omega, ?_⟩
  exact Int.ediv_le_self d (by omega)

/-- How many numbers from 1 to i have no divisor in common with n. -/
def totTo (n : Nat) : Nat → Int
  | 0 => 0
  | i + 1 => totTo n i + if Nat.gcd (i + 1) n = 1 then 1 else 0
def tot (n : Int) : Int := if 1 ≤ n ∧ n ≤ 1000 then totTo n.toNat n.toNat else 0
theorem totTo_bd (n : Nat) : ∀ i, 0 ≤ totTo n i ∧ totTo n i ≤ i
  | 0 => by simp [totTo]
  | i + 1 => by have := totTo_bd n i; simp only [totTo]; split <;> omega
theorem tot_bd (n : Int) : 0 ≤ tot n ∧ tot n ≤ 1000 := by
  unfold tot; split
  · have := totTo_bd n.toNat n.toNat; omega
  · omega
theorem mobAux_bd : ∀ k d m s, (-1 ≤ s ∧ s ≤ 1) → -1 ≤ mobAux k d m s ∧ mobAux k d m s ≤ 1
  | 0, _, _, s, h => by simpa [mobAux] using h
  | k + 1, d, m, s, h => by
    simp only [mobAux]
    split
    · exact h
    · split
      · split
        · omega
        · exact mobAux_bd k _ _ _ (by omega)
      · exact mobAux_bd k _ _ _ h
theorem mob_bd (n : Int) : -1 ≤ mob n ∧ mob n ≤ 1 := by
  unfold mob; split
  · exact mobAux_bd _ _ _ _ (by omega)
  · omega
theorem gcd_step (x y : Nat) : Nat.gcd y (x % y) = Nat.gcd x y := by
  rw [Nat.gcd_comm y (x % y), ← Nat.gcd_rec y x, Nat.gcd_comm]

/-- k to the power of j. -/
def powTo (k : Int) : Nat → Int
  | 0 => 1
  | j + 1 => powTo k j * k
def pw (k n : Int) : Int := powTo k n.toNat
theorem powTo_bd4 {k : Int} (h0 : 0 ≤ k) (h4 : k ≤ 4) : ∀ j : Nat, 0 ≤ powTo k j ∧ powTo k j ≤ ((4 ^ j : Nat) : Int)
  | 0 => by simp [powTo]
  | j + 1 => by
    obtain ⟨h1, h2⟩ := powTo_bd4 h0 h4 j
    refine ⟨Int.mul_nonneg h1 h0, ?_⟩
    rw [Nat.pow_succ, Int.natCast_mul]
    exact Int.mul_le_mul h2 (by omega) h0 (by omega)
theorem powTo_bd {k : Int} (h0 : 0 ≤ k) (h4 : k ≤ 4) {j : Nat} (hj : j ≤ 11) : 0 ≤ powTo k j ∧ powTo k j ≤ 4194304 := by
  obtain ⟨h1, h2⟩ := powTo_bd4 h0 h4 j
  refine ⟨h1, Int.le_trans h2 ?_⟩
  have := Nat.pow_le_pow_right (n := 4) (by decide) hj
  have e : (4 : Nat) ^ 11 = 4194304 := by decide
  omega
theorem pw_bd {k n : Int} (h0 : 0 ≤ k) (h4 : k ≤ 4) (hn : n ≤ 11) : 0 ≤ pw k n ∧ pw k n ≤ 4194304 := powTo_bd h0 h4 (by omega)
theorem mul_bd {t p : Int} (h1 : -1000 ≤ t) (h2 : t ≤ 1000) (h3 : 0 ≤ p) (h4 : p ≤ 4194304) : -4194304000 ≤ t * p ∧ t * p ≤ 4194304000 := by
  have a := Int.mul_le_mul_of_nonneg_right h1 h3
  have b := Int.mul_le_mul_of_nonneg_right h2 h3
  omega
/-- The sum of f d times k to the power of n / d over the divisors d of n up to j. -/
def dsum (f : Int → Int) (k n : Int) : Nat → Int
  | 0 => 0
  | j + 1 => dsum f k n j + if n % ((j : Int) + 1) = 0 then f ((j : Int) + 1) * pw k (n / ((j : Int) + 1)) else 0
theorem dsum_bd {f : Int → Int} {k n : Int} (hf : ∀ d, -1000 ≤ f d ∧ f d ≤ 1000) (h0 : 0 ≤ k) (h4 : k ≤ 4) (hn0 : 0 ≤ n) (hn : n ≤ 11) :
    ∀ j : Nat, -(4194304000 * (j : Int)) ≤ dsum f k n j ∧ dsum f k n j ≤ 4194304000 * (j : Int)
  | 0 => by simp [dsum]
  | j + 1 => by
    have ih := dsum_bd hf h0 h4 hn0 hn j
    have hd : n / ((j : Int) + 1) ≤ 11 := Int.le_trans (Int.ediv_le_self _ hn0) hn
    have hp := pw_bd h0 h4 hd
    have hb := mul_bd (hf ((j : Int) + 1)).1 (hf ((j : Int) + 1)).2 hp.1 hp.2
    simp only [dsum]
    split <;> omega
theorem dsum_nonneg {f : Int → Int} {k n : Int} (hf : ∀ d, 0 ≤ f d) (h0 : 0 ≤ k) (h4 : k ≤ 4) (hn0 : 0 ≤ n) (hn : n ≤ 11) : ∀ j : Nat, 0 ≤ dsum f k n j
  | 0 => by simp [dsum]
  | j + 1 => by
    have ih := dsum_nonneg hf h0 h4 hn0 hn j
    have hd : n / ((j : Int) + 1) ≤ 11 := Int.le_trans (Int.ediv_le_self _ hn0) hn
    have hp := pw_bd h0 h4 hd
    have hb := Int.mul_nonneg (hf ((j : Int) + 1)) hp.1
    simp only [dsum]
    split <;> omega
def fits (n k : Int) : Prop := 1 ≤ n ∧ n ≤ 10 ∧ 1 ≤ k ∧ k ≤ 4
instance (n k : Int) : Decidable (fits n k) := by unfold fits; infer_instance
def neck (n k : Int) : Int := if fits n k then (dsum tot k n n.toNat).tdiv n else -1
def lynd (n k : Int) : Int := if fits n k then (dsum mob k n n.toNat).tdiv n else -1
def mirr (n k : Int) : Int := if fits n k then (if n % 2 = 1 then pw k ((n + 1) / 2) else (pw k (n / 2) + pw k (n / 2 + 1)) / 2) else -1
def brac (n k : Int) : Int := if fits n k then (neck n k + mirr n k) / 2 else -1
def hand (n k : Int) : Int := if fits n k then neck n k - brac n k else -1
theorem tdiv_bd {s n : Int} (h1 : -41943040000 ≤ s) (h2 : s ≤ 41943040000) (hn : 1 ≤ n) : -41943040000 ≤ s.tdiv n ∧ s.tdiv n ≤ 41943040000 := by
  rcases Int.le_total 0 s with h | h
  · rw [Int.tdiv_eq_ediv_of_nonneg h]
    have := Int.ediv_nonneg h (by omega : 0 ≤ n)
    have := Int.ediv_le_self n h
    omega
  · have e : s = -(-s) := by omega
    rw [e, Int.neg_tdiv, Int.tdiv_eq_ediv_of_nonneg (by omega)]
    have := Int.ediv_nonneg (by omega : 0 ≤ -s) (by omega : 0 ≤ n)
    have := Int.ediv_le_self n (by omega : 0 ≤ -s)
    omega
theorem tot_bd' (d : Int) : -1000 ≤ tot d ∧ tot d ≤ 1000 := by have := tot_bd d; omega
theorem mob_bd' (d : Int) : -1000 ≤ mob d ∧ mob d ≤ 1000 := by have := mob_bd d; omega
theorem neck_bd (n k : Int) : -1 ≤ neck n k ∧ neck n k ≤ 41943040000 ∧ (fits n k → 0 ≤ neck n k) := by
  unfold neck
  split
  · rename_i h
    obtain ⟨h1, h2, h3, h4⟩ := h
    have hb := dsum_bd (f := tot) (k := k) (n := n) tot_bd' (by omega) h4 (by omega) (by omega) n.toNat
    have h0 := dsum_nonneg (f := tot) (k := k) (n := n) (fun d => (tot_bd d).1) (by omega) h4 (by omega) (by omega) n.toNat
    rw [Int.tdiv_eq_ediv_of_nonneg h0]
    have := Int.ediv_nonneg h0 (by omega : 0 ≤ n)
    have := Int.ediv_le_self n h0
    refine ⟨by omega, by omega, fun _ => by omega⟩
  · exact ⟨by omega, by omega, fun h => by contradiction⟩
theorem mirr_bd (n k : Int) : -1 ≤ mirr n k ∧ mirr n k ≤ 4194304 ∧ (fits n k → 0 ≤ mirr n k) := by
  unfold mirr
  split
  · rename_i h
    obtain ⟨h1, h2, h3, h4⟩ := h
    have a := pw_bd (k := k) (n := (n + 1) / 2) (by omega) h4 (by omega)
    have b := pw_bd (k := k) (n := n / 2) (by omega) h4 (by omega)
    have c := pw_bd (k := k) (n := n / 2 + 1) (by omega) h4 (by omega)
    split
    · exact ⟨by omega, by omega, fun _ => by omega⟩
    · exact ⟨by omega, by omega, fun _ => by omega⟩
  · exact ⟨by omega, by omega, fun h => by contradiction⟩
theorem brac_bd (n k : Int) : -1 ≤ brac n k ∧ brac n k ≤ 41943040000 := by
  have a := neck_bd n k
  have b := mirr_bd n k
  unfold brac
  split <;> omega
end Go.Proofs.Ytdjdagcgodpgdaa.Nums
/- All words of some letters in order, the next one, the patterns among them. -/
set_option linter.unusedVariables false
namespace Go.Proofs.Ytdjdagcgodpgdaa.Perms

def stepW (k : Nat) (ws : List (List Int)) : List (List Int) := ws.flatMap fun w => (List.range k).map fun (x : Nat) => w ++ [(x : Int)]
def wordsN (k : Nat) : Nat → List (List Int)
  | 0 => [[]]
  | n + 1 => stepW k (wordsN k n)
theorem stepW_cons (k : Nat) (w : List Int) (ws : List (List Int)) : stepW k (w :: ws) = ((List.range k).map fun (x : Nat) => w ++ [(x : Int)]) ++ stepW k ws := by simp [stepW]
theorem stepW_append (k : Nat) (a b : List (List Int)) : stepW k (a ++ b) = stepW k a ++ stepW k b := by simp [stepW]
theorem stepW_len (k : Nat) : ∀ ws : List (List Int), (stepW k ws).length = ws.length * k
  | [] => by simp [stepW]
  | w :: ws => by rw [stepW_cons, List.length_append, stepW_len k ws]; simp [Nat.succ_mul, Nat.add_comm]
theorem stepW_get {k : Nat} : ∀ {ws : List (List Int)} {i x : Nat}, x < k → (stepW k ws)[i * k + x]? = ws[i]?.map (fun w => w ++ [(x : Int)])
  | [], i, x, hx => by simp [stepW]
  | w :: ws, 0, x, hx => by
    rw [stepW_cons, Nat.zero_mul, Nat.zero_add, List.getElem?_append_left (by simpa using hx)]
    simp [hx]
  | w :: ws, i + 1, x, hx => by
    rw [stepW_cons, List.getElem?_append_right (by simp [Nat.succ_mul]; omega), List.length_map, List.length_range, show (i + 1) * k + x - k = i * k + x from by rw [Nat.succ_mul]; omega, stepW_get hx]
    simp
theorem wordsN_len (k : Nat) : ∀ n, (wordsN k n).length = k ^ n
  | 0 => rfl
  | n + 1 => by rw [wordsN, stepW_len, wordsN_len k n, Nat.pow_succ]
theorem wordsN_mem {k : Nat} : ∀ {n : Nat} {w : List Int}, w ∈ wordsN k n ↔ w.length = n ∧ ∀ x ∈ w, 0 ≤ x ∧ x < k
  | 0, w => by
    simp only [wordsN, List.mem_singleton]
    constructor
    · rintro rfl; simp
    · rintro ⟨h, _⟩; exact List.length_eq_zero_iff.1 h
  | n + 1, w => by
    simp only [wordsN, stepW, List.mem_flatMap, List.mem_map, List.mem_range]
    constructor
    · rintro ⟨u, hu, x, hx, rfl⟩
      obtain ⟨h1, h2⟩ := wordsN_mem.1 hu
      refine ⟨by simp [h1], fun y hy => ?_⟩
      rcases List.mem_append.1 hy with h | h
      · exact h2 y h
      · simp at h; omega
    · rintro ⟨h1, h2⟩
      obtain ⟨u, x, rfl⟩ : ∃ u x, w = u ++ [x] := ⟨w.dropLast, w.getLast (by intro e; simp [e] at h1), (List.dropLast_concat_getLast _).symm⟩
      have hx := h2 x (by simp)
      refine ⟨u, wordsN_mem.2 ⟨by simpa using h1, fun y hy => h2 y (by simp [hy])⟩, x.toNat, by omega, ?_⟩
      rw [show ((x.toNat : Nat) : Int) = x from by omega]
/-- The next word: none after the last one. -/
def nextL (k : Int) : List Int → Option (List Int)
  | [] => none
  | x :: xs => match nextL k xs with
    | some ys => some (x :: ys)
    | none => if x < k - 1 then some ((x + 1) :: List.replicate xs.length 0) else none
theorem nextL_some {k : Int} {b c : List Int} (h : nextL k b = some c) : ∀ a : List Int, nextL k (a ++ b) = some (a ++ c)
  | [] => h
  | x :: a => by simp only [List.cons_append, nextL, nextL_some h a]
theorem nextL_up {k x : Int} {b : List Int} (h : nextL k b = none) (hx : x < k - 1) (a : List Int) : nextL k (a ++ x :: b) = some (a ++ (x + 1) :: List.replicate b.length 0) :=
  nextL_some (by simp only [nextL, h]; rw [if_pos hx]) a
theorem nextL_none {k x : Int} {b : List Int} (h : nextL k b = none) (hx : ¬ x < k - 1) : nextL k (x :: b) = none := by
  simp only [nextL, h]; rw [if_neg hx]
theorem nextL_len {k : Int} : ∀ {w v : List Int}, nextL k w = some v → v.length = w.length
  | [], v, h => by simp [nextL] at h
  | x :: w, v, h => by
    simp only [nextL] at h
    split at h
    · rename_i ys hy
      cases h
      simp [nextL_len hy]
    · split at h
      · cases h; simp
      · cases h
theorem nextL_snoc {k x : Int} : ∀ w : List Int, nextL k (w ++ [x]) = if x < k - 1 then some (w ++ [x + 1]) else (nextL k w).map fun v => v ++ [0]
  | [] => by simp [nextL]
  | y :: w => by
    rw [List.cons_append, nextL, nextL_snoc w]
    by_cases h : x < k - 1
    · simp [h]
    · simp only [h, if_false, nextL]
      cases nextL k w with
      | some v => simp
      | none =>
        simp only [Option.map_none]
        split
        · simp [List.replicate_succ']
        · rfl
theorem wordsN_first (k : Nat) (hk : 1 ≤ k) : ∀ n, (wordsN k n)[0]? = some (List.replicate n 0)
  | 0 => rfl
  | n + 1 => by
    have := stepW_get (ws := wordsN k n) (i := 0) (x := 0) (k := k) (by omega)
    rw [Nat.zero_mul] at this
    rw [wordsN, this, wordsN_first k hk n]
    simp [List.replicate_succ']
theorem wordsN_next {k : Nat} (hk : 1 ≤ k) : ∀ {n j : Nat} {w : List Int}, (wordsN k n)[j]? = some w → nextL k w = (wordsN k n)[j + 1]?
  | 0, j, w, h => by
    cases j with
    | zero => simp [wordsN] at h; subst h; simp [wordsN, nextL]
    | succ j => simp [wordsN] at h
  | n + 1, j, w, h => by
    have hj : j = j / k * k + j % k := by rw [Nat.mul_comm]; exact (Nat.div_add_mod j k).symm
    have hm : j % k < k := Nat.mod_lt _ (by omega)
    simp only [wordsN] at h ⊢
    rw [hj, stepW_get hm, Option.map_eq_some_iff] at h
    obtain ⟨u, hu, rfl⟩ := h
    have ih := wordsN_next hk hu
    rw [nextL_snoc]
    by_cases hx : j % k + 1 < k
    · rw [if_pos (by omega), show j + 1 = j / k * k + (j % k + 1) from by omega, stepW_get hx, hu]
      simp
    · rw [if_neg (by omega), show j + 1 = (j / k + 1) * k + 0 from by rw [Nat.succ_mul]; omega, stepW_get (by omega), ih]
      rfl
theorem cmpL_app : ∀ {u v : List Int} (s t : List Int), u.length = v.length → Words.cmpL (u ++ s) (v ++ t) = if Words.cmpL u v = 0 then Words.cmpL s t else Words.cmpL u v
  | [], [], s, t, _ => by simp [Words.cmpL]
  | [], _ :: _, _, _, h => by simp at h
  | _ :: _, [], _, _, h => by simp at h
  | x :: u, y :: v, s, t, h => by
    have ih := cmpL_app (u := u) (v := v) s t (by simpa using h)
    simp only [List.cons_append, Words.cmpL]
    by_cases h1 : x < y
    · simp [h1]
    · by_cases h2 : y < x
      · simp [h1, h2]
      · simp only [h1, h2, if_false]; exact ih
theorem Asc.pairwise {g : List (List Int)} : Asc g ↔ g.Pairwise fun a b => Words.cmpL a b < 0 := by
  rw [List.pairwise_iff_getElem]
  constructor
  · intro h i j hi hj hij
    exact h i j _ _ hij (List.getElem?_eq_getElem hi) (List.getElem?_eq_getElem hj)
  · intro h i j a b hij ha hb
    obtain ⟨h1, rfl⟩ := List.getElem?_eq_some_iff.1 ha
    obtain ⟨h2, rfl⟩ := List.getElem?_eq_some_iff.1 hb
    exact h i j h1 h2 hij
theorem Asc.filter {g : List (List Int)} (h : Asc g) (f : List Int → Bool) : Asc (g.filter f) := Asc.pairwise.2 ((Asc.pairwise.1 h).sublist List.filter_sublist)
theorem wordsN_asc {k : Nat} : ∀ n, Asc (wordsN k n)
  | 0 => fun i j a b hij ha hb => by
    have h1 := (List.getElem?_eq_some_iff.1 ha).1
    have h2 := (List.getElem?_eq_some_iff.1 hb).1
    simp [wordsN] at h1 h2
    omega
  | n + 1 => fun i j a b hij ha hb => by
    have ih := wordsN_asc (k := k) n
    have hk : 1 ≤ k := by
      cases k with
      | zero =>
        have h0 := (List.getElem?_eq_some_iff.1 ha).1
        rw [wordsN, stepW_len] at h0
        omega
      | succ k => omega
    have hi : i = i / k * k + i % k := by rw [Nat.mul_comm]; exact (Nat.div_add_mod i k).symm
    have hj : j = j / k * k + j % k := by rw [Nat.mul_comm]; exact (Nat.div_add_mod j k).symm
    have hmi : i % k < k := Nat.mod_lt _ (by omega)
    have hmj : j % k < k := Nat.mod_lt _ (by omega)
    simp only [wordsN] at ha hb
    rw [hi, stepW_get hmi, Option.map_eq_some_iff] at ha
    rw [hj, stepW_get hmj, Option.map_eq_some_iff] at hb
    obtain ⟨u, hu, rfl⟩ := ha
    obtain ⟨v, hv, rfl⟩ := hb
    have lu := (wordsN_mem.1 (List.mem_of_getElem? hu)).1
    have lv := (wordsN_mem.1 (List.mem_of_getElem? hv)).1
    rw [cmpL_app _ _ (by omega)]
    have hle : i / k ≤ j / k := Nat.div_le_div_right (by omega)
    rcases Nat.lt_or_eq_of_le hle with h | h
    · have := ih _ _ _ _ h hu hv
      rw [if_neg (by omega)]
      exact this
    · rw [h, hv] at hu
      obtain rfl := Option.some.inj hu
      rw [Words.cmpL_self, if_pos rfl]
      rw [h] at hi
      have : ((i % k : Nat) : Int) < (j % k : Nat) := by omega
      simp only [Words.cmpL]
      rw [if_pos this]
      omega
theorem powTo_eq {k : Int} (hk : 0 ≤ k) : ∀ n, Nums.powTo k n = ((k.toNat ^ n : Nat) : Int)
  | 0 => rfl
  | n + 1 => by
    rw [Nums.powTo, powTo_eq hk n, Nat.pow_succ, Int.natCast_mul, show ((k.toNat : Nat) : Int) = k from by omega]
theorem pow_up {k : Nat} (hk : 1 ≤ k) {i n : Nat} (h : i ≤ n) : k ^ i ≤ k ^ n := Nat.pow_le_pow_right hk h
def degree (g : List (List Int)) : Nat := (row0 g).length
def smallB (g : List (List Int)) (k : Int) : Bool := grpB g && (decide (1 ≤ k ∧ k ≤ 4) && decide (Nums.pw k (row0 g).length ≤ 1024))
def isPat (g : List (List Int)) (w : List Int) : Bool := decide (canon g w = w)
def pats (g : List (List Int)) (k : Int) : List (List Int) := (wordsN k.toNat (row0 g).length).filter (isPat g)
def patsW (g : List (List Int)) (k : Int) : List (List Int) := if smallB g k = true then pats g k else []
theorem smallB_parts {g : List (List Int)} {k : Int} (h : smallB g k = true) : grpB g = true ∧ 1 ≤ k ∧ k ≤ 4 ∧ k.toNat ^ (row0 g).length ≤ 1024 := by
  unfold smallB at h
  simp only [Bool.and_eq_true, decide_eq_true_eq] at h
  obtain ⟨h1, ⟨h2, h3⟩, h4⟩ := h
  refine ⟨h1, h2, h3, ?_⟩
  unfold Nums.pw at h4
  rw [show ((row0 g).length : Int).toNat = (row0 g).length from by omega, powTo_eq (by omega)] at h4
  omega
theorem row0_len {g : List (List Int)} (h : grpB g = true) : 1 ≤ (row0 g).length ∧ (row0 g).length ≤ 10 := by
  obtain ⟨h1, h2, h3, h4⟩ := grpB_parts h
  have hm : row0 g ∈ g := by
    unfold row0 List.getD
    rw [List.getElem?_eq_getElem (show 0 < g.length by omega)]
    exact List.getElem_mem _
  exact permB_len (rowsTo_mem h3 hm).1
theorem pats_len {g : List (List Int)} {k : Int} (h : smallB g k = true) : (pats g k).length ≤ 1024 := by
  have h4 := (smallB_parts h).2.2.2
  have := List.length_filter_le (isPat g) (wordsN k.toNat (row0 g).length)
  rw [wordsN_len] at this
  unfold pats
  omega
theorem pats_mem {g : List (List Int)} {k : Int} {w : List Int} : w ∈ pats g k ↔ (w.length = (row0 g).length ∧ ∀ x ∈ w, 0 ≤ x ∧ x < k) ∧ canon g w = w := by
  unfold pats isPat
  rw [List.mem_filter, wordsN_mem, decide_eq_true_eq]
  constructor
  · rintro ⟨⟨h1, h2⟩, h3⟩
    exact ⟨⟨h1, fun x hx => by have := h2 x hx; omega⟩, h3⟩
  · rintro ⟨⟨h1, h2⟩, h3⟩
    exact ⟨⟨h1, fun x hx => by have := h2 x hx; omega⟩, h3⟩
theorem pats_asc (g : List (List Int)) (k : Int) : Asc (pats g k) := (wordsN_asc _).filter _
theorem pats_fits {g : List (List Int)} {k : Int} (h : smallB g k = true) {w : List Int} (hw : w ∈ pats g k) : fitsB g w = true := by
  obtain ⟨h1, h2, h3, h4⟩ := smallB_parts h
  obtain ⟨⟨a, b⟩, c⟩ := pats_mem.1 hw
  have hr := row0_len h1
  unfold fitsB
  rw [h1, Words.okW_mk (by omega) (by omega) (fun x hx => by have := b x hx; omega), decide_eq_true a]
  rfl
end Go.Proofs.Ytdjdagcgodpgdaa.Perms
/- The cycles of a permutation. No program in sight. -/
set_option linter.unusedVariables false
namespace Go.Proofs.Ytdjdagcgodpgdaa

/-- From 'a' on, until what was seen is met again. -/
def Perms.cycW (p : List Int) : Nat → Nat → List Nat → List Int → List Nat × List Int
  | 0, _, seen, row => (seen, row)
  | f + 1, a, seen, row => if a ∈ seen then (seen, row) else Perms.cycW p f (p.getD a 0).toNat (seen ++ [a]) (row ++ [(a : Int)])
def Perms.cycTo (p : List Int) : Nat → List Nat × List (List Int)
  | 0 => ([], [])
  | j + 1 =>
    let s := Perms.cycTo p j
    if j ∈ s.1 then s else
      let r := Perms.cycW p (p.length + 1 - s.1.length) j s.1 []
      (r.1, s.2 ++ [r.2])
def Perms.cycles (p : List Int) : List (List Int) := if Perms.permB p = true then (Perms.cycTo p p.length).2 else []
end Go.Proofs.Ytdjdagcgodpgdaa
/- Orbits are counted by what each element of a group keeps. No program in sight. -/
set_option linter.unusedVariables false
namespace Go.Proofs.Ytdjdagcgodpgdaa.Perms

/-! ### the least image -/
theorem canon_low {g : List (List Int)} {l : List Int} : ∀ j, ¬ Words.cmpL l (canonTo g l j) < 0 ∧ ∀ i p, i < j → g[i]? = some p → ¬ Words.cmpL (act p l) (canonTo g l j) < 0
  | 0 => ⟨by rw [canonTo, Words.cmpL_self]; omega, fun i p h => by omega⟩
  | j + 1 => by
    obtain ⟨h1, h2⟩ := canon_low (g := g) (l := l) j
    cases hp : g[j]? with
    | none =>
      have e : canonTo g l (j + 1) = canonTo g l j := by simp only [canonTo]; rw [hp]
      rw [e]
      refine ⟨h1, fun i p hi hg => ?_⟩
      by_cases h : i = j
      · subst h; rw [hp] at hg; cases hg
      · exact h2 i p (by omega) hg
    | some q =>
      rw [canonTo_step hp]
      by_cases hc : Words.cmpL (act q l) (canonTo g l j) < 0
      · rw [if_pos hc]
        refine ⟨fun h => h1 (Words.cmpL_trans h hc), fun i p hi hg h => ?_⟩
        by_cases e : i = j
        · subst e; rw [hp] at hg; cases hg
          rw [Words.cmpL_self] at h; omega
        · exact h2 i p (by omega) hg (Words.cmpL_trans h hc)
      · rw [if_neg hc]
        refine ⟨h1, fun i p hi hg h => ?_⟩
        by_cases e : i = j
        · subst e; rw [hp] at hg; cases hg
          exact hc h
        · exact h2 i p (by omega) hg h
theorem canon_min {g : List (List Int)} {l p : List Int} (hp : p ∈ g) : ¬ Words.cmpL (act p l) (canon g l) < 0 := by
  obtain ⟨i, hi, e⟩ := List.mem_iff_getElem.1 hp
  exact (canon_low g.length).2 i p hi (by rw [List.getElem?_eq_getElem hi, e])
theorem canon_le (g : List (List Int)) (l : List Int) : ¬ Words.cmpL l (canon g l) < 0 := (canon_low g.length).1
theorem canonTo_img {g : List (List Int)} {l : List Int} : ∀ j, canonTo g l j = l ∨ ∃ p ∈ g, canonTo g l j = act p l
  | 0 => .inl rfl
  | j + 1 => by
    simp only [canonTo]
    split
    · rename_i p hp
      split
      · exact .inr ⟨p, List.mem_of_getElem? hp, rfl⟩
      · exact canonTo_img j
    · exact canonTo_img j
theorem Grp.canon_in {g : List (List Int)} {n : Nat} (G : Grp g n) (h0 : g ≠ []) {l : List Int} (hl : l.length = n) : ∃ p ∈ g, canon g l = act p l := by
  rcases canonTo_img (g := g) (l := l) g.length with h | h
  · exact ⟨_, G.one h0, by rw [G.act_one h0 hl]; exact h⟩
  · exact h
theorem cmp_anti {a b : List Int} (h1 : ¬ Words.cmpL a b < 0) (h2 : ¬ Words.cmpL b a < 0) : a = b := by
  have := Words.cmpL_neg a b
  exact Words.cmpL_eq (by omega)
theorem Grp.canon_uniq {g : List (List Int)} {n : Nat} (G : Grp g n) (h0 : g ≠ []) {l y : List Int} (hl : l.length = n) (hy : ∃ p ∈ g, y = act p l) (hm : ∀ p ∈ g, ¬ Words.cmpL (act p l) y < 0) : canon g l = y := by
  obtain ⟨p, hp, rfl⟩ := hy
  obtain ⟨q, hq, e⟩ := G.canon_in h0 hl
  exact cmp_anti (by rw [e]; exact hm q hq) (canon_min hp)
theorem Grp.canon_act {g : List (List Int)} {n : Nat} (G : Grp g n) {l p : List Int} (hl : l.length = n) (hp : p ∈ g) : canon g (act p l) = canon g l := by
  have h0 := List.ne_nil_of_mem hp
  obtain ⟨q, hq, e⟩ := G.canon_in h0 hl
  obtain ⟨r, hr, er⟩ := G.inv hp
  have hap : (act p l).length = n := by rw [act_len, hl]
  refine G.canon_uniq h0 hap ⟨comp r q, G.mul r hr q hq, ?_⟩ fun s hs => ?_
  · rw [G.act_mul hr hq hap, ← G.act_mul hp hr hl, er, G.act_one h0 hl, e]
  · rw [← G.act_mul hp hs hl]
    exact canon_min (G.mul p hp s hs)
theorem Grp.canon_canon {g : List (List Int)} {n : Nat} (G : Grp g n) (h0 : g ≠ []) {l : List Int} (hl : l.length = n) : canon g (canon g l) = canon g l := by
  obtain ⟨q, hq, e⟩ := G.canon_in h0 hl
  rw [e, G.canon_act hl hq, e]
theorem Grp.canon_same {g : List (List Int)} {n : Nat} (G : Grp g n) (h0 : g ≠ []) {a b : List Int} (ha : a.length = n) (hb : b.length = n) : canon g a = canon g b ↔ ∃ p ∈ g, act p a = b := by
  constructor
  · intro h
    obtain ⟨p, hp, e1⟩ := G.canon_in h0 ha
    obtain ⟨q, hq, e2⟩ := G.canon_in h0 hb
    obtain ⟨r, hr, er⟩ := G.inv hq
    exact ⟨comp p r, G.mul p hp r hr, by rw [G.act_mul hp hr ha, ← e1, h, e2, ← G.act_mul hq hr hb, er, G.act_one h0 hb]⟩
  · rintro ⟨p, hp, rfl⟩
    exact (G.canon_act ha hp).symm

/-! ### sums -/
theorem sum_add {α : Type} (f h : α → Nat) : ∀ l : List α, (l.map fun a => f a + h a).sum = (l.map f).sum + (l.map h).sum
  | [] => rfl
  | a :: l => by simp only [List.map_cons, List.sum_cons]; rw [sum_add f h l]; omega
theorem sum_zero {α : Type} : ∀ l : List α, (l.map fun _ => 0).sum = 0
  | [] => rfl
  | a :: l => by simp only [List.map_cons, List.sum_cons]; rw [sum_zero l]
theorem sum_const {α : Type} {f : α → Nat} {c : Nat} : ∀ {l : List α}, (∀ a ∈ l, f a = c) → (l.map f).sum = l.length * c
  | [], _ => by simp
  | a :: l, h => by
    simp only [List.map_cons, List.sum_cons, List.length_cons]
    rw [sum_const (l := l) fun x hx => h x (List.mem_cons_of_mem _ hx), h a List.mem_cons_self, Nat.succ_mul]
    omega
theorem sum_congr {α : Type} {f h : α → Nat} : ∀ {l : List α}, (∀ a ∈ l, f a = h a) → (l.map f).sum = (l.map h).sum
  | [], _ => rfl
  | a :: l, e => by
    simp only [List.map_cons, List.sum_cons]
    rw [sum_congr (l := l) fun x hx => e x (List.mem_cons_of_mem _ hx), e a List.mem_cons_self]
theorem sum_ite {α : Type} (P : α → Bool) : ∀ l : List α, (l.map fun a => if P a = true then 1 else 0).sum = (l.filter P).length
  | [] => rfl
  | a :: l => by
    simp only [List.map_cons, List.sum_cons, List.filter_cons]
    rw [sum_ite P l]
    split
    · rw [List.length_cons]; omega
    · omega
theorem swap_count {α β : Type} (P : α → β → Bool) : ∀ (l : List α) (m : List β), (l.map fun a => (m.filter (P a)).length).sum = (m.map fun b => (l.filter fun a => P a b).length).sum
  | [], m => by simp only [List.map_nil, List.sum_nil, List.filter_nil, List.length_nil]; rw [sum_zero]
  | a :: l, m => by
    simp only [List.map_cons, List.sum_cons]
    rw [swap_count P l m, ← sum_ite (P a) m, ← sum_add]
    refine sum_congr fun b _ => ?_
    rw [List.filter_cons]
    split
    · rw [List.length_cons]; omega
    · omega
theorem sum_one {β : Type} [DecidableEq β] (y : β) (c : Nat) : ∀ {ys : List β}, ys.Nodup → y ∈ ys → (ys.map fun z => if y = z then c else 0).sum = c
  | [], _, h => by cases h
  | z :: ys, hn, h => by
    obtain ⟨h1, h2⟩ := List.nodup_cons.1 hn
    simp only [List.map_cons, List.sum_cons]
    by_cases e : y = z
    · subst e
      rw [if_pos rfl, sum_congr (h := fun _ => 0) fun x hx => if_neg (show ¬ y = x from fun e => h1 (by rw [e]; exact hx)), sum_zero]
      rfl
    · rw [if_neg e, sum_one y c h2 ((List.mem_cons.1 h).resolve_left e)]
      omega
theorem sum_fibers {α β : Type} [DecidableEq β] {f : α → β} {k : α → Nat} {ys : List β} (hn : ys.Nodup) : ∀ {W : List α}, (∀ x ∈ W, f x ∈ ys) → (W.map k).sum = (ys.map fun y => ((W.filter fun x => decide (f x = y)).map k).sum).sum
  | [], _ => by simp only [List.map_nil, List.sum_nil, List.filter_nil]; rw [sum_zero]
  | x :: W, h => by
    rw [List.map_cons, List.sum_cons, sum_fibers hn fun z hz => h z (List.mem_cons_of_mem _ hz), ← sum_one (f x) (k x) hn (h x List.mem_cons_self), ← sum_add]
    refine sum_congr fun y _ => ?_
    rw [List.filter_cons]
    by_cases e : f x = y
    · rw [if_pos e, if_pos (decide_eq_true e), List.map_cons, List.sum_cons]
    · rw [if_neg e, if_neg (by rw [decide_eq_true_eq]; exact e)]; omega
theorem sum_length {α : Type} : ∀ l : List α, (l.map fun _ => 1).sum = l.length
  | [] => rfl
  | a :: l => by simp only [List.map_cons, List.sum_cons, List.length_cons]; rw [sum_length l]; omega
theorem same_len {α : Type} [DecidableEq α] {a b : List α} (ha : a.Nodup) (hb : b.Nodup) (h : ∀ x, x ∈ a ↔ x ∈ b) : a.length = b.length :=
  Nat.le_antisymm (subset_len ha fun x hx => (h x).1 hx) (subset_len hb fun x hx => (h x).2 hx)

/-! ### orbits -/
/-- Words of one length on which a group acts. -/
structure Acts (g : List (List Int)) (n : Nat) (W : List (List Int)) : Prop where
  nodup : W.Nodup
  len : ∀ x ∈ W, x.length = n
  mem : ∀ p ∈ g, ∀ x ∈ W, act p x ∈ W
def reps (g : List (List Int)) (W : List (List Int)) : List (List Int) := W.filter fun x => decide (canon g x = x)
theorem reps_mem {g W : List (List Int)} {x : List Int} : x ∈ reps g W ↔ x ∈ W ∧ canon g x = x := by unfold reps; rw [List.mem_filter, decide_eq_true_eq]
theorem Acts.canon_mem {g W : List (List Int)} {n : Nat} (A : Acts g n W) (G : Grp g n) (h0 : g ≠ []) {x : List Int} (hx : x ∈ W) : canon g x ∈ reps g W := by
  obtain ⟨p, hp, e⟩ := G.canon_in h0 (A.len x hx)
  exact reps_mem.2 ⟨by rw [e]; exact A.mem p hp x hx, G.canon_canon h0 (A.len x hx)⟩
/-- What has the least image r is an image of r. -/
theorem Acts.fiber_mem {g W : List (List Int)} {n : Nat} (A : Acts g n W) (G : Grp g n) (h0 : g ≠ []) {r x : List Int} (hr : r ∈ reps g W) : x ∈ W.filter (fun x => decide (canon g x = r)) ↔ x ∈ im g r := by
  obtain ⟨h1, h2⟩ := reps_mem.1 hr
  rw [List.mem_filter, decide_eq_true_eq, im_mem]
  constructor
  · rintro ⟨hx, e⟩
    exact (G.canon_same h0 (A.len r h1) (A.len x hx)).1 (by rw [h2, e])
  · rintro ⟨p, hp, rfl⟩
    exact ⟨A.mem p hp r h1, by rw [G.canon_act (A.len r h1) hp, h2]⟩
theorem Acts.fiber_len {g W : List (List Int)} {n : Nat} (A : Acts g n W) (G : Grp g n) (h0 : g ≠ []) {r : List Int} (hr : r ∈ reps g W) : (W.filter fun x => decide (canon g x = r)).length = (im g r).length :=
  same_len (A.nodup.sublist List.filter_sublist) (imTo_nodup g r _) fun _ => A.fiber_mem G h0 hr
/-- The images of all patterns are all words. -/
theorem Acts.sum_images {g W : List (List Int)} {n : Nat} (A : Acts g n W) (G : Grp g n) (h0 : g ≠ []) : ((reps g W).map fun r => (im g r).length).sum = W.length := by
  rw [← sum_length W, sum_fibers (f := canon g) (ys := reps g W) (A.nodup.sublist List.filter_sublist) fun x hx => A.canon_mem G h0 hx]
  refine sum_congr fun r hr => ?_
  rw [sum_length, A.fiber_len G h0 hr]
theorem Grp.keep_same {g : List (List Int)} {n : Nat} (G : Grp g n) (h0 : g ≠ []) {r x : List Int} (hr : r.length = n) (hx : x ∈ im g r) : (keep g x).length = (keep g r).length := by
  obtain ⟨p, hp, rfl⟩ := im_mem.1 hx
  have hl : (act p r).length = n := by rw [act_len, hr]
  have e : (im g (act p r)).length = (im g r).length := by
    refine same_len (imTo_nodup g _ _) (imTo_nodup g _ _) fun y => ?_
    obtain ⟨q, hq, eq⟩ := G.inv hp
    rw [im_mem, im_mem]
    constructor
    · rintro ⟨s, hs, rfl⟩
      exact ⟨comp p s, G.mul p hp s hs, G.act_mul hp hs hr⟩
    · rintro ⟨s, hs, rfl⟩
      exact ⟨comp q s, G.mul q hq s hs, by rw [G.act_mul hq hs hl, ← G.act_mul hp hq hr, eq, G.act_one h0 hr]⟩
  have h1 := G.orbit hl
  have h2 := G.orbit hr
  rw [e, h2] at h1
  have : 0 < (im g r).length := List.length_pos_of_mem (im_mem.2 ⟨p, hp, rfl⟩)
  exact (Nat.eq_of_mul_eq_mul_left this h1).symm
/-- Orbits times order are what the elements keep. -/
theorem Acts.burnside {g W : List (List Int)} {n : Nat} (A : Acts g n W) (G : Grp g n) (h0 : g ≠ []) : (g.map fun p => (W.filter fun x => decide (act p x = x)).length).sum = (reps g W).length * g.length := by
  rw [swap_count (fun p x => decide (act p x = x)) g W, sum_fibers (f := canon g) (ys := reps g W) (A.nodup.sublist List.filter_sublist) fun x hx => A.canon_mem G h0 hx]
  refine sum_const fun r hr => ?_
  have hl := A.len r (reps_mem.1 hr).1
  rw [sum_const (c := (keep g r).length) fun x hx => ?_, A.fiber_len G h0 hr, ← G.orbit hl]
  exact G.keep_same h0 hl ((A.fiber_mem G h0 hr).1 hx)
end Go.Proofs.Ytdjdagcgodpgdaa.Perms
/- The words that a permutation keeps: one letter a cycle. No program in sight. -/
set_option linter.unusedVariables false
namespace Go.Proofs.Ytdjdagcgodpgdaa.Perms

def cells (p : List Int) : List (List Nat) := (cycles p).map fun c => c.map Int.toNat
def fill (b : List Int) (c : List Nat) (x : Nat) : List Int := c.foldl (fun b j => b.set j (x : Int)) b
theorem fill_len (x : Nat) : ∀ (c : List Nat) (b : List Int), (fill b c x).length = b.length
  | [], b => rfl
  | j :: c, b => by
    show (fill (b.set j x) c x).length = _
    rw [fill_len x c, List.length_set]
theorem fill_get (x i : Nat) : ∀ (c : List Nat) (b : List Int), (∀ j ∈ c, j < b.length) → (fill b c x)[i]? = if i ∈ c then some (x : Int) else b[i]?
  | [], b, _ => by simp [fill]
  | j :: c, b, h => by
    show (fill (b.set j x) c x)[i]? = _
    rw [fill_get x i c _ fun k hk => by rw [List.length_set]; exact h k (List.mem_cons_of_mem _ hk)]
    by_cases h1 : i ∈ c
    · rw [if_pos h1, if_pos (List.mem_cons_of_mem _ h1)]
    · rw [if_neg h1]
      by_cases h2 : i = j
      · subst h2
        rw [if_pos List.mem_cons_self, List.getElem?_set, if_pos rfl, if_pos (h i List.mem_cons_self)]
      · rw [if_neg (by rw [List.mem_cons]; exact fun o => o.elim h2 h1), List.getElem?_set, if_neg (fun e => h2 e.symm)]
/-- All words that have one letter a cell, and that are b beside the cells. -/
def ext (k : Nat) : List (List Nat) → List Int → List (List Int)
  | [], b => [b]
  | c :: cs, b => (List.range k).flatMap fun x => ext k cs (fill b c x)
theorem ext_len (k : Nat) : ∀ (cs : List (List Nat)) (b : List Int), (ext k cs b).length = k ^ cs.length
  | [], b => rfl
  | c :: cs, b => by
    simp only [ext, List.length_cons]
    rw [List.length_flatMap, sum_const fun x _ => ext_len k cs _, List.length_range, Nat.pow_succ, Nat.mul_comm]
def OneEach (k : Nat) (cs : List (List Nat)) (w : List Int) : Prop := ∀ c ∈ cs, ∃ x : Nat, x < k ∧ ∀ i ∈ c, w[i]? = some (x : Int)
theorem ext_mem (k : Nat) (w : List Int) : ∀ (cs : List (List Nat)) (b : List Int), cs.flatten.Nodup → (∀ i ∈ cs.flatten, i < b.length) →
    (w ∈ ext k cs b ↔ (∀ i, i ∉ cs.flatten → w[i]? = b[i]?) ∧ OneEach k cs w)
  | [], b, _, _ => by
    simp only [ext, List.mem_singleton, List.flatten_nil, List.not_mem_nil, not_false_eq_true, forall_const]
    constructor
    · rintro rfl
      exact ⟨fun _ => rfl, fun c hc => by cases hc⟩
    · rintro ⟨h, _⟩
      exact List.ext_getElem? h
  | c :: cs, b, hn, hb => by
    rw [List.flatten_cons] at hn hb ⊢
    obtain ⟨n1, n2, n3⟩ := List.nodup_append.1 hn
    have hc : ∀ j ∈ c, j < b.length := fun j hj => hb j (List.mem_append_left _ hj)
    have ih : ∀ x, w ∈ ext k cs (fill b c x) ↔ _ := fun x => ext_mem k w cs (fill b c x) n2 fun i hi => by rw [fill_len]; exact hb i (List.mem_append_right _ hi)
    simp only [ext, List.mem_flatMap, List.mem_range]
    constructor
    · rintro ⟨x, hx, hw⟩
      obtain ⟨h1, h2⟩ := (ih x).1 hw
      have hin : ∀ i ∈ c, w[i]? = some (x : Int) := fun i hi => by
        rw [h1 i fun h => n3 i hi i h rfl, fill_get x i c b hc, if_pos hi]
      refine ⟨fun i hi => ?_, fun d hd => ?_⟩
      · rw [List.mem_append] at hi
        rw [h1 i fun h => hi (.inr h), fill_get x i c b hc, if_neg fun h => hi (.inl h)]
      · rcases List.mem_cons.1 hd with rfl | hd
        · exact ⟨x, hx, hin⟩
        · exact h2 d hd
    · rintro ⟨h1, h2⟩
      obtain ⟨x, hx, hw⟩ := h2 c List.mem_cons_self
      refine ⟨x, hx, (ih x).2 ⟨fun i hi => ?_, fun d hd => h2 d (List.mem_cons_of_mem _ hd)⟩⟩
      rw [fill_get x i c b hc]
      by_cases h : i ∈ c
      · rw [if_pos h, hw i h]
      · rw [if_neg h]
        exact h1 i fun hm => (List.mem_append.1 hm).elim h hi
theorem ext_nodup (k : Nat) : ∀ (cs : List (List Nat)) (b : List Int), cs.flatten.Nodup → (∀ i ∈ cs.flatten, i < b.length) → (∀ c ∈ cs, c ≠ []) → (ext k cs b).Nodup
  | [], b, _, _, _ => by simp [ext]
  | c :: cs, b, hn, hb, h0 => by
    rw [List.flatten_cons] at hn hb
    obtain ⟨n1, n2, n3⟩ := List.nodup_append.1 hn
    have hb2 : ∀ x, ∀ i ∈ cs.flatten, i < (fill b c x).length := fun x i hi => by rw [fill_len]; exact hb i (List.mem_append_right _ hi)
    simp only [ext]
    unfold List.Nodup
    rw [List.pairwise_flatMap]
    refine ⟨fun x _ => ext_nodup k cs _ n2 (hb2 x) fun d hd => h0 d (List.mem_cons_of_mem _ hd), ?_⟩
    have hr : (List.range k).Nodup := List.nodup_range
    refine List.Pairwise.imp (fun {x y} hxy u hu v hv e => ?_) hr
    subst e
    obtain ⟨i, hi⟩ := List.exists_mem_of_ne_nil c (h0 c List.mem_cons_self)
    have hc : ∀ j ∈ c, j < b.length := fun j hj => hb j (List.mem_append_left _ hj)
    have hi2 : i ∉ cs.flatten := fun h => n3 i hi i h rfl
    have a := ((ext_mem k u cs _ n2 (hb2 x)).1 hu).1 i hi2
    have c := ((ext_mem k u cs _ n2 (hb2 y)).1 hv).1 i hi2
    rw [fill_get _ _ _ _ hc, if_pos hi] at a c
    rw [a] at c
    have := Option.some.inj c
    exact hxy (by omega)

/-! ### how many of each letter -/
def cnt (w : List Int) (cs : List Nat) (x : Nat) : Nat := (cs.filter fun i => decide (w[i]? = some (x : Int))).length
def num (w : List Int) (x : Int) : Nat := (w.filter fun y => decide (y = x)).length
theorem cnt_range (w : List Int) (x : Nat) : cnt w (List.range w.length) x = num w x := by
  have e : w = (List.range w.length).map fun i => w.getD i 0 := by
    apply List.ext_getElem?
    intro i
    by_cases h : i < w.length
    · rw [List.getElem?_eq_getElem h]
      simp [h]
    · rw [List.getElem?_eq_none (by omega), List.getElem?_eq_none (by simp; omega)]
  unfold num cnt
  conv => rhs; rw [e]
  rw [List.filter_map, List.length_map]
  congr 1
  refine List.filter_congr fun i hi => ?_
  have h := List.mem_range.1 hi
  simp [h]
def inSum (l : List Int) : Int := l.foldr (· + ·) 0
def ways : List Nat → List Int → Nat
  | [], _ => 1
  | c :: cs, left => ((List.range left.length).map fun i => if (c : Int) ≤ left.getD i 0 then ways cs (left.set i (left.getD i 0 - c)) else 0).sum
def fitC (k : Nat) (cs : List (List Nat)) (left : List Int) (w : List Int) : Bool := (List.range k).all fun x => decide ((cnt w cs.flatten x : Int) = left.getD x 0)
theorem inSum_zero : ∀ {l : List Int}, (∀ x ∈ l, 0 ≤ x) → inSum l = 0 → ∀ x ∈ l, x = 0
  | [], _, _, x, hx => by cases hx
  | y :: l, h, e, x, hx => by
    have h0 : ∀ l : List Int, (∀ x ∈ l, 0 ≤ x) → 0 ≤ inSum l := fun l => by
      induction l with
      | nil => intro _; exact Int.le_refl _
      | cons a l ih =>
        intro h
        have := ih fun x hx => h x (List.mem_cons_of_mem _ hx)
        have := h a List.mem_cons_self
        show 0 ≤ a + inSum l
        omega
    have h1 := h0 l fun x hx => h x (List.mem_cons_of_mem _ hx)
    have h2 := h y List.mem_cons_self
    have e' : y + inSum l = 0 := e
    rcases List.mem_cons.1 hx with rfl | hx
    · omega
    · exact inSum_zero (fun x hx => h x (List.mem_cons_of_mem _ hx)) (by omega) x hx
theorem inSum_set : ∀ (l : List Int) (i : Nat) (v : Int), i < l.length → inSum (l.set i v) = inSum l - l.getD i 0 + v
  | [], i, v, h => by simp at h
  | y :: l, 0, v, h => by
    simp only [List.set_cons_zero, inSum, List.foldr_cons, List.getD_cons_zero]
    omega
  | y :: l, i + 1, v, h => by
    have := inSum_set l i v (by simpa using h)
    simp only [List.set_cons_succ, inSum, List.foldr_cons, List.getD_cons_succ] at *
    omega
/-- How many words there are of each content. -/
theorem ways_eq (k : Nat) : ∀ (cs : List (List Nat)) (b left : List Int), cs.flatten.Nodup → (∀ i ∈ cs.flatten, i < b.length) → left.length = k → (∀ x ∈ left, 0 ≤ x) → inSum left = cs.flatten.length →
    ((ext k cs b).filter (fitC k cs left)).length = ways (cs.map List.length) left
  | [], b, left, _, _, hk, h0, hs => by
    have hz := inSum_zero h0 (by simpa using hs)
    simp only [ext, List.map_nil, ways]
    rw [List.filter_cons, if_pos]
    · rfl
    · unfold fitC
      rw [List.all_eq_true]
      intro x hx
      have hx := List.mem_range.1 hx
      rw [decide_eq_true_eq]
      have : left.getD x 0 = left[x] := by simp [List.getD, List.getElem?_eq_getElem (show x < left.length by omega)]
      rw [this, hz _ (List.getElem_mem _)]
      simp [cnt]
  | c :: cs, b, left, hn, hb, hk, h0, hs => by
    rw [List.flatten_cons] at hn hb hs
    rw [List.length_append] at hs
    obtain ⟨n1, n2, n3⟩ := List.nodup_append.1 hn
    have hc : ∀ j ∈ c, j < b.length := fun j hj => hb j (List.mem_append_left _ hj)
    have hb2 : ∀ x, ∀ i ∈ cs.flatten, i < (fill b c x).length := fun x i hi => by rw [fill_len]; exact hb i (List.mem_append_right _ hi)
    simp only [ext, List.map_cons, ways]
    rw [List.filter_flatMap, List.length_flatMap, hk]
    refine sum_congr fun x hx => ?_
    have hx := List.mem_range.1 hx
    have hgx : left.getD x 0 = left[x] := by simp [List.getD, List.getElem?_eq_getElem (show x < left.length by omega)]
    have hg0 := h0 _ (List.getElem_mem (show x < left.length by omega))
    -- the letters of the first cell
    have hcell : ∀ w ∈ ext k cs (fill b c x), ∀ y : Nat, (cnt w (c ++ cs.flatten) y : Int) = cnt w cs.flatten y + (if y = x then (c.length : Int) else 0) := fun w hw y => by
      have h1 := ((ext_mem k w cs _ n2 (hb2 x)).1 hw).1
      have hin : ∀ i ∈ c, w[i]? = some (x : Int) := fun i hi => by
        rw [h1 i fun h => n3 i hi i h rfl, fill_get x i c b hc, if_pos hi]
      unfold cnt
      rw [List.filter_append, List.length_append]
      by_cases e : y = x
      · subst e
        rw [if_pos rfl, List.filter_eq_self.2 fun i hi => decide_eq_true (hin i hi)]
        omega
      · rw [if_neg e, List.filter_eq_nil_iff.2 fun i hi => by
          rw [hin i hi, decide_eq_true_eq]
          intro h
          have := Option.some.inj h
          omega]
        simp
    by_cases hle : (c.length : Int) ≤ left.getD x 0
    · rw [if_pos hle, ← ways_eq k cs (fill b c x) (left.set x (left.getD x 0 - c.length)) n2 (hb2 x) (by rw [List.length_set, hk]) (fun y hy => ?_) (by rw [inSum_set _ _ _ (by omega), hs]; omega)]
      · congr 1
        refine List.filter_congr fun w hw => ?_
        have hcw := hcell w hw
        unfold fitC
        rw [Bool.eq_iff_iff, List.all_eq_true, List.all_eq_true]
        refine forall_congr' fun y => forall_congr' fun hy => ?_
        have hy := List.mem_range.1 hy
        rw [decide_eq_true_eq, decide_eq_true_eq, List.flatten_cons, hcw y]
        by_cases e : y = x
        · subst e
          rw [if_pos rfl, show (left.set y (left.getD y 0 - c.length)).getD y 0 = left.getD y 0 - c.length from by simp [List.getD, hk, hy]]
          omega
        · rw [if_neg e, show (left.set x (left.getD x 0 - c.length)).getD y 0 = left.getD y 0 from by simp only [List.getD]; rw [List.getElem?_set, if_neg fun h => e h.symm]]
          omega
      · rcases List.mem_or_eq_of_mem_set hy with h | h
        · exact h0 y h
        · omega
    · rw [if_neg hle, List.filter_eq_nil_iff.2 fun w hw => ?_]
      · rfl
      · unfold fitC
        rw [List.all_eq_true]
        intro h
        have := of_decide_eq_true (h x (List.mem_range.2 hx))
        rw [List.flatten_cons, hcell w hw x, if_pos rfl] at this
        omega
end Go.Proofs.Ytdjdagcgodpgdaa.Perms
/- What the permutations of at most six points keep, counted. No program in sight. -/
set_option linter.unusedVariables false
namespace Go.Proofs.Ytdjdagcgodpgdaa.Perms

theorem rowsTo_of {g : List (List Int)} (h : ∀ p ∈ g, permB p = true ∧ p.length = (row0 g).length) (ha : Asc g) : ∀ j, j ≤ g.length → rowsTo g j = true
  | 0, _ => rfl
  | j + 1, hj => by
    have hg : g[j]? = some g[j] := List.getElem?_eq_getElem (by omega)
    obtain ⟨h1, h2⟩ := h _ (List.getElem_mem (show j < g.length by omega))
    simp only [rowsTo, hg]
    rw [rowsTo_of h ha j (by omega), h1, decide_eq_true h2]
    simp only [Bool.true_and, Bool.or_eq_true, beq_iff_eq]
    by_cases e : j = 0
    · exact .inl e
    · right
      have hq : g[j - 1]? = some g[j - 1] := List.getElem?_eq_getElem (by omega)
      have e2 : g.getD (j - 1) [] = g[j - 1] := by simp [List.getD, hq]
      rw [e2]
      have hl := (h _ (List.getElem_mem (show j - 1 < g.length by omega))).2
      exact (Words.less_neg (by rw [hl, h2])).2 (ha (j - 1) j _ _ (by omega) hq hg)
def injW (n : Nat) : Nat → List (List Int)
  | 0 => [[]]
  | j + 1 => (injW n j).flatMap fun w => ((List.range n).filter fun (x : Nat) => decide ((x : Int) ∉ w)).map fun (x : Nat) => w ++ [(x : Int)]
theorem injW_mem {n : Nat} {p : List Int} (hn : p.Nodup) (hr : ∀ x ∈ p, 0 ≤ x ∧ x < n) : ∀ j, j ≤ p.length → p.take j ∈ injW n j
  | 0, _ => by simp [injW]
  | j + 1, hj => by
    have ih := injW_mem hn hr j (by omega)
    have hx : p[j]? = some p[j] := List.getElem?_eq_getElem (by omega)
    have h1 := hr _ (List.getElem_mem (show j < p.length by omega))
    simp only [injW, List.mem_flatMap]
    refine ⟨p.take j, ih, ?_⟩
    rw [List.take_add_one, hx]
    refine List.mem_map.2 ⟨p[j].toNat, List.mem_filter.2 ⟨List.mem_range.2 (by omega), decide_eq_true ?_⟩, ?_⟩
    · rw [Int.toNat_of_nonneg h1.1]
      intro hm
      obtain ⟨i, hi, e⟩ := List.mem_iff_getElem.1 hm
      rw [List.length_take] at hi
      rw [List.getElem_take] at e
      have := nodup_inj hn (i := i) (j := j) (x := p[j]) (by rw [List.getElem?_eq_getElem (by omega), e]) hx
      omega
    · rw [Int.toNat_of_nonneg h1.1]; rfl
def cycOkB (p : List Int) : Bool :=
  decide (cells p).flatten.Nodup && ((cells p).flatten.all fun i => decide (i < p.length)) && ((List.range p.length).all fun i => decide (i ∈ (cells p).flatten)) &&
  ((cells p).all fun c => !c.isEmpty && (c.all fun i => decide ((p.getD i 0).toNat ∈ c)) && ((List.range (c.length - 1)).all fun t => decide (c.getD (t + 1) 0 = (p.getD (c.getD t 0) 0).toNat)))
theorem cyc_all : ∀ n ∈ List.range 7, ∀ p ∈ injW n n, cycOkB p = true := by decide +kernel
theorem cyc_ok {p : List Int} (h : permB p = true) (hl : p.length ≤ 6) : cycOkB p = true := by
  refine cyc_all p.length (List.mem_range.2 (by omega)) p ?_
  have := injW_mem (permB_nodup h) (permB_range h) p.length (Nat.le_refl _)
  rwa [List.take_length] at this
structure CycOk (p : List Int) : Prop where
  nodup : (cells p).flatten.Nodup
  lt : ∀ i ∈ (cells p).flatten, i < p.length
  all : ∀ i, i < p.length → i ∈ (cells p).flatten
  ne : ∀ c ∈ cells p, c ≠ []
  shut : ∀ c ∈ cells p, ∀ i ∈ c, (p.getD i 0).toNat ∈ c
  next : ∀ c ∈ cells p, ∀ t, t + 1 < c.length → c.getD (t + 1) 0 = (p.getD (c.getD t 0) 0).toNat
theorem CycOk.of {p : List Int} (h : cycOkB p = true) : CycOk p := by
  unfold cycOkB at h
  simp only [Bool.and_eq_true, decide_eq_true_eq, List.all_eq_true, List.mem_range, Bool.not_eq_true', List.isEmpty_eq_false_iff] at h
  obtain ⟨⟨⟨h1, h2⟩, h3⟩, h4⟩ := h
  exact ⟨h1, h2, h3, fun c hc => (h4 c hc).1.1, fun c hc => (h4 c hc).1.2, fun c hc t ht => (h4 c hc).2 t (by omega)⟩
/-- A permutation keeps just the words that have one letter a cycle. -/
theorem CycOk.kept {p : List Int} (C : CycOk p) (hp : permB p = true) {k : Nat} {w : List Int} (hl : w.length = p.length) (hr : ∀ x ∈ w, 0 ≤ x ∧ x < (k : Int)) : act p w = w ↔ OneEach k (cells p) w := by
  constructor
  · intro h c hc
    have hstep : ∀ i : Nat, i < p.length → w[(p.getD i 0).toNat]? = w[i]? := fun i hi => by
      have hx : p[i]? = some (p.getD i 0) := by simp [List.getD, List.getElem?_eq_getElem hi]
      obtain ⟨y, hy⟩ := at_some hl hi
      have := act_at hp hl.symm hx hy
      rw [h] at this
      rw [this, hy]
    have hin : ∀ i ∈ c, i < p.length := fun i hi => C.lt i (List.mem_flatten.2 ⟨c, hc, hi⟩)
    obtain ⟨i0, hi0⟩ := List.exists_mem_of_ne_nil c (C.ne c hc)
    have hpos : 0 < c.length := List.length_pos_of_mem hi0
    have h0 : c.getD 0 0 ∈ c := by
      rw [show c.getD 0 0 = c[0] from by simp [List.getD, List.getElem?_eq_getElem hpos]]
      exact List.getElem_mem _
    have hall : ∀ t, t < c.length → w[c.getD t 0]? = w[c.getD 0 0]? := fun t => by
      induction t with
      | zero => intro _; rfl
      | succ t ih =>
        intro ht
        have hm : c.getD t 0 ∈ c := by
          rw [show c.getD t 0 = c[t] from by simp [List.getD, List.getElem?_eq_getElem (show t < c.length by omega)]]
          exact List.getElem_mem _
        rw [C.next c hc t ht, hstep _ (hin _ hm), ih (by omega)]
    obtain ⟨y, hy⟩ := at_some hl (hin _ h0)
    have hyr := hr y (List.mem_of_getElem? hy)
    refine ⟨y.toNat, by omega, fun i hi => ?_⟩
    obtain ⟨t, ht, e⟩ := List.mem_iff_getElem.1 hi
    have := hall t ht
    rw [show c.getD t 0 = i from by rw [← e]; simp [List.getD, List.getElem?_eq_getElem ht], hy] at this
    rw [this, Int.toNat_of_nonneg hyr.1]
  · intro h
    refine perm_ext hp (by rw [act_len, hl]) hl fun i x hx => ?_
    have hi : i < p.length := (List.getElem?_eq_some_iff.1 hx).1
    obtain ⟨y, hy⟩ := at_some hl hi
    rw [act_at hp hl.symm hx hy]
    obtain ⟨c, hc, hic⟩ := List.mem_flatten.1 (C.all i hi)
    obtain ⟨z, _, hz⟩ := h c hc
    have e : p.getD i 0 = x := by simp [List.getD, hx]
    have h2 := C.shut c hc i hic
    rw [e] at h2
    rw [hz _ h2, ← hz i hic, hy]
theorem kept_mem {p : List Int} (C : CycOk p) (hp : permB p = true) (k : Nat) (w : List Int) :
    w ∈ (wordsN k p.length).filter (fun x => decide (act p x = x)) ↔ w ∈ ext k (cells p) (List.replicate p.length 0) := by
  rw [List.mem_filter, wordsN_mem, decide_eq_true_eq, ext_mem k w _ _ C.nodup fun i hi => by rw [List.length_replicate]; exact C.lt i hi]
  constructor
  · rintro ⟨⟨h1, h2⟩, h3⟩
    refine ⟨fun i hi => ?_, (C.kept hp h1 h2).1 h3⟩
    have : p.length ≤ i := Nat.le_of_not_lt fun h => hi (C.all i h)
    rw [List.getElem?_eq_none (by omega), List.getElem?_eq_none (by rw [List.length_replicate]; omega)]
  · rintro ⟨h1, h2⟩
    have hsome : ∀ i, i < p.length → ∃ x : Nat, x < k ∧ w[i]? = some (x : Int) := fun i hi => by
      obtain ⟨c, hc, hic⟩ := List.mem_flatten.1 (C.all i hi)
      obtain ⟨x, hx, h⟩ := h2 c hc
      exact ⟨x, hx, h i hic⟩
    have hl : w.length = p.length := by
      rcases Nat.lt_trichotomy w.length p.length with h | h | h
      · obtain ⟨x, _, hx⟩ := hsome _ h
        rw [List.getElem?_eq_none (Nat.le_refl _)] at hx
        cases hx
      · exact h
      · have := h1 p.length fun hm => by have := C.lt _ hm; omega
        rw [List.getElem?_eq_getElem h, List.getElem?_eq_none (by rw [List.length_replicate]; omega)] at this
        cases this
    have hr : ∀ x ∈ w, 0 ≤ x ∧ x < (k : Int) := fun x hx => by
      obtain ⟨i, hi, e⟩ := List.mem_iff_getElem.1 hx
      obtain ⟨y, hy, h⟩ := hsome i (by omega)
      rw [List.getElem?_eq_getElem hi, e] at h
      have := Option.some.inj h
      omega
    exact ⟨⟨hl, hr⟩, (C.kept hp hl hr).2 h2⟩
theorem wordsN_nodup (k n : Nat) : (wordsN k n).Nodup := (wordsN_asc n).nodup
theorem kept_len {p : List Int} (C : CycOk p) (hp : permB p = true) (k : Nat) : ((wordsN k p.length).filter fun x => decide (act p x = x)).length = k ^ (cells p).length := by
  rw [← ext_len k (cells p) (List.replicate p.length 0)]
  exact same_len ((wordsN_nodup _ _).sublist List.filter_sublist) (ext_nodup k _ _ C.nodup (fun i hi => by rw [List.length_replicate]; exact C.lt i hi) C.ne) (kept_mem C hp k)
/-- As many of each letter as the list says. -/
def contB (k : Nat) (left : List Int) (w : List Int) : Bool := (List.range k).all fun x => decide ((num w (x : Int) : Int) = left.getD x 0)
theorem cells_len {p : List Int} (C : CycOk p) : (cells p).flatten.length = p.length := by
  rw [← List.length_range (n := p.length)]
  exact same_len C.nodup List.nodup_range fun i => ⟨fun h => List.mem_range.2 (C.lt i h), fun h => C.all i (List.mem_range.1 h)⟩
theorem fitC_cont {p : List Int} (C : CycOk p) {k : Nat} {left w : List Int} (hl : w.length = p.length) : fitC k (cells p) left w = contB k left w := by
  unfold fitC contB
  congr 1
  funext x
  rw [← cnt_range w x]
  congr 3
  unfold cnt
  refine same_len (C.nodup.sublist List.filter_sublist) (List.nodup_range.sublist List.filter_sublist) fun i => ?_
  rw [List.mem_filter, List.mem_filter, List.mem_range, hl]
  constructor
  · rintro ⟨h1, h2⟩; exact ⟨C.lt i h1, h2⟩
  · rintro ⟨h1, h2⟩; exact ⟨C.all i h1, h2⟩
theorem kept_ways {p : List Int} (C : CycOk p) (hp : permB p = true) (k : Nat) (left : List Int) (hk : left.length = k) (h0 : ∀ x ∈ left, 0 ≤ x) (hs : inSum left = p.length) :
    (((wordsN k p.length).filter (contB k left)).filter fun x => decide (act p x = x)).length = ways ((cells p).map List.length) left := by
  rw [← ways_eq k (cells p) (List.replicate p.length 0) left C.nodup (fun i hi => by rw [List.length_replicate]; exact C.lt i hi) hk h0 (by rw [hs, cells_len C])]
  refine same_len (((wordsN_nodup _ _).sublist List.filter_sublist).sublist List.filter_sublist) ((ext_nodup k _ _ C.nodup (fun i hi => by rw [List.length_replicate]; exact C.lt i hi) C.ne).sublist List.filter_sublist) fun w => ?_
  have hm := kept_mem C hp k w
  rw [List.mem_filter, List.mem_filter, List.mem_filter, ← hm, List.mem_filter]
  constructor
  · rintro ⟨⟨h1, h2⟩, h3⟩
    exact ⟨⟨h1, h3⟩, by rw [fitC_cont C (wordsN_mem.1 h1).1]; exact h2⟩
  · rintro ⟨⟨h1, h3⟩, h2⟩
    exact ⟨⟨h1, by rw [← fitC_cont C (wordsN_mem.1 h1).1]; exact h2⟩, h3⟩

/-! ### groups act on words -/
theorem act_from {p l : List Int} (h : permB p = true) (hl : p.length = l.length) {y : Int} (hy : y ∈ act p l) : y ∈ l := by
  obtain ⟨i, hi, e⟩ := List.mem_iff_getElem.1 hy
  rw [act_len] at hi
  obtain ⟨j, hj⟩ := permB_surj h (k := i) (by omega)
  have hjl : j < p.length := (List.getElem?_eq_some_iff.1 hj).1
  obtain ⟨z, hz⟩ := at_some hl.symm hjl
  have := act_at h hl hj hz
  rw [Int.toNat_natCast, List.getElem?_eq_getElem (by rw [act_len]; omega), e] at this
  rw [Option.some.inj this]
  exact List.mem_of_getElem? hz
theorem Grp.acts {g : List (List Int)} {n : Nat} (G : Grp g n) (k : Nat) : Acts g n (wordsN k n) :=
  ⟨wordsN_nodup k n, fun x hx => (wordsN_mem.1 hx).1, fun p hp x hx => by
    obtain ⟨h1, h2⟩ := wordsN_mem.1 hx
    exact wordsN_mem.2 ⟨by rw [act_len, h1], fun y hy => h2 y (act_from (G.perm p hp) (by rw [G.len p hp, h1]) hy)⟩⟩
theorem num_le {p l : List Int} (h : permB p = true) (hl : p.length = l.length) (x : Nat) : num l x ≤ num (act p l) x := by
  rw [← cnt_range, ← cnt_range, act_len]
  unfold cnt
  refine inj_len (f := fun i => (p.getD i 0).toNat) (List.nodup_range.sublist List.filter_sublist) (fun i hi => ?_) fun i hi j hj e => ?_
  · obtain ⟨h1, h2⟩ := List.mem_filter.1 hi
    have h1 := List.mem_range.1 h1
    have hx : p[i]? = some (p.getD i 0) := by simp [List.getD, List.getElem?_eq_getElem (show i < p.length by omega)]
    have h3 := act_at h hl hx (of_decide_eq_true h2)
    have := permB_range h _ (List.mem_of_getElem? hx)
    exact List.mem_filter.2 ⟨List.mem_range.2 (by omega), decide_eq_true h3⟩
  · have h1 := List.mem_range.1 (List.mem_filter.1 hi).1
    have h2 := List.mem_range.1 (List.mem_filter.1 hj).1
    have hx : p[i]? = some (p.getD i 0) := by simp [List.getD, List.getElem?_eq_getElem (show i < p.length by omega)]
    have hy : p[j]? = some (p.getD j 0) := by simp [List.getD, List.getElem?_eq_getElem (show j < p.length by omega)]
    have r1 := permB_range h _ (List.mem_of_getElem? hx)
    have r2 := permB_range h _ (List.mem_of_getElem? hy)
    have e : (p.getD i 0).toNat = (p.getD j 0).toNat := e
    rw [show p.getD i 0 = p.getD j 0 from by omega] at hx
    exact nodup_inj (permB_nodup h) hx hy
theorem Grp.num_act {g : List (List Int)} {n : Nat} (G : Grp g n) {p l : List Int} (hp : p ∈ g) (hl : l.length = n) (x : Nat) : num (act p l) x = num l x := by
  have h0 := List.ne_nil_of_mem hp
  obtain ⟨q, hq, e⟩ := G.inv hp
  refine Nat.le_antisymm ?_ (num_le (G.perm p hp) (by rw [G.len p hp, hl]) x)
  have := num_le (l := act p l) (G.perm q hq) (by rw [G.len q hq, act_len, hl]) x
  rwa [← G.act_mul hp hq hl, e, G.act_one h0 hl] at this
/-- A group acts on the words of what its elements leave as it is. -/
theorem Acts.part {g W : List (List Int)} {n : Nat} (A : Acts g n W) {P : List Int → Bool} (h : ∀ p ∈ g, ∀ x ∈ W, P (act p x) = P x) : Acts g n (W.filter P) :=
  ⟨A.nodup.sublist List.filter_sublist, fun x hx => A.len x (List.mem_filter.1 hx).1, fun p hp x hx => by
    obtain ⟨h1, h2⟩ := List.mem_filter.1 hx
    exact List.mem_filter.2 ⟨A.mem p hp x h1, by rw [h p hp x h1, h2]⟩⟩
theorem Grp.cont_acts {g : List (List Int)} {n : Nat} (G : Grp g n) (k : Nat) (left : List Int) : Acts g n ((wordsN k n).filter (contB k left)) :=
  (G.acts k).part fun p hp x hx => by
    unfold contB
    congr 1
    funext y
    rw [G.num_act hp (wordsN_mem.1 hx).1]
theorem reps_part (g W : List (List Int)) (P : List Int → Bool) : reps g (W.filter P) = (reps g W).filter P := by
  unfold reps
  rw [List.filter_filter, List.filter_filter]
  congr 1
  funext x
  exact Bool.and_comm _ _
theorem pats_reps (g : List (List Int)) (k : Int) : pats g k = reps g (wordsN k.toNat (row0 g).length) := rfl

/-! ### the two counts -/
theorem sumTo_eq {g : List (List Int)} {k : Nat} (hk : 1 ≤ k) : (g.map fun p => k ^ (cells p).length).sum = (g.map fun p => k ^ (cells p).length).sum := rfl
/-- As many patterns as the elements keep words, divided by the order. -/
theorem Grp.count {g : List (List Int)} {n : Nat} (G : Grp g n) (h0 : g ≠ []) (hn : n ≤ 6) (k : Nat) : (g.map fun p => k ^ (cells p).length).sum = (reps g (wordsN k n)).length * g.length := by
  rw [← (G.acts k).burnside G h0]
  refine sum_congr fun p hp => ?_
  have e := G.len p hp
  rw [← kept_len (CycOk.of (cyc_ok (G.perm p hp) (by omega))) (G.perm p hp) k, e]
theorem Grp.count_cont {g : List (List Int)} {n : Nat} (G : Grp g n) (h0 : g ≠ []) (hn : n ≤ 6) {k : Nat} {left : List Int} (hk : left.length = k) (hx : ∀ x ∈ left, 0 ≤ x) (hs : inSum left = n) :
    (g.map fun p => ways ((cells p).map List.length) left).sum = ((reps g (wordsN k n)).filter (contB k left)).length * g.length := by
  rw [← reps_part, ← (G.cont_acts k left).burnside G h0]
  refine sum_congr fun p hp => ?_
  have e := G.len p hp
  rw [← kept_ways (CycOk.of (cyc_ok (G.perm p hp) (by omega))) (G.perm p hp) k left hk hx (by rw [hs, e]), e]
end Go.Proofs.Ytdjdagcgodpgdaa.Perms
