/-
  Patterns: the least coloring to which a group carries one, and what keeps it.
-/
import Derived.Test.YtdjdagcgodpgdaaGreatPerms
set_option linter.unusedVariables false
namespace Go.Proofs.YtdjdagcgodpgdaaGreat.Perms

/-- The group and the coloring fit, as far as the walks need it. -/
def Fit (g : List (List Int)) (l : List Int) : Prop := (∀ p ∈ g, p.length = l.length ∧ ∀ x ∈ p, 0 ≤ x ∧ x < l.length) ∧ l.length ≤ 10 ∧ g.length ≤ 120
def canonTo (g : List (List Int)) (l : List Int) : Nat → List Int
  | 0 => l
  | j + 1 => match g[j]? with
    | some p => if Words.cmpL (act p l) (canonTo g l j) < 0 then act p l else canonTo g l j
    | none => canonTo g l j
def canon (g : List (List Int)) (l : List Int) : List Int := canonTo g l g.length
theorem canonTo_step {g : List (List Int)} {l p : List Int} {j : Nat} (hp : g[j]? = some p) : canonTo g l (j + 1) = if Words.cmpL (act p l) (canonTo g l j) < 0 then act p l else canonTo g l j := by
  simp only [canonTo]; rw [hp]
theorem canonTo_len (g : List (List Int)) (l : List Int) : ∀ j, (canonTo g l j).length = l.length
  | 0 => rfl
  | j + 1 => by
    simp only [canonTo]
    split
    · split
      · exact act_len _ _
      · exact canonTo_len g l j
    · exact canonTo_len g l j
theorem canon_len (g : List (List Int)) (l : List Int) : (canon g l).length = l.length := canonTo_len g l _
def fitsB (g : List (List Int)) (l : List Int) : Bool := grpB g && Words.okW l && decide (l.length = (row0 g).length)
theorem grpB_parts {g : List (List Int)} (h : grpB g = true) : 1 ≤ g.length ∧ g.length ≤ 120 ∧ rowsTo g g.length = true ∧ closed g = true := by
  unfold grpB at h
  simp only [Bool.and_eq_true, decide_eq_true_eq] at h
  exact ⟨h.1.1.1, h.1.1.2, h.1.2, h.2⟩
theorem fitsB_parts {g : List (List Int)} {l : List Int} (h : fitsB g l = true) : grpB g = true ∧ Words.okW l = true ∧ l.length = (row0 g).length := by
  unfold fitsB at h
  simp only [Bool.and_eq_true, decide_eq_true_eq] at h
  exact ⟨h.1.1, h.1.2, h.2⟩
/-- A group acts on what is as long as its rows. -/
theorem grp_fit {g : List (List Int)} {l : List Int} (h : grpB g = true) (hl : l.length = (row0 g).length) : Fit g l := by
  obtain ⟨h1, h2, h3, h4⟩ := grpB_parts h
  have each : ∀ p ∈ g, p.length = l.length ∧ ∀ x ∈ p, 0 ≤ x ∧ x < l.length := fun p hp => by
    obtain ⟨a, b⟩ := rowsTo_mem h3 hp
    have e : p.length = l.length := by omega
    exact ⟨e, fun x hx => by rw [← e]; exact permB_range a x hx⟩
  refine ⟨each, ?_, h2⟩
  obtain ⟨p, hp⟩ : ∃ p, p ∈ g := ⟨_, List.getElem_mem (show 0 < g.length by omega)⟩
  have := permB_len (rowsTo_mem h3 hp).1
  have := (each p hp).1
  omega
theorem fitsB_fit {g : List (List Int)} {l : List Int} (h : fitsB g l = true) : Fit g l := by
  obtain ⟨h1, h2, h3⟩ := fitsB_parts h
  exact grp_fit h1 h3
def canonW (g : List (List Int)) (l : List Int) : List Int := if fitsB g l = true then canon g l else []
theorem canonW_len (g : List (List Int)) (l : List Int) : (canonW g l).length ≤ 10 := by
  unfold canonW
  split
  · rename_i h
    rw [canon_len]; exact (fitsB_fit h).2.1
  · simp
def canonB (g : List (List Int)) (l : List Int) : Bool := fitsB g l && decide (canonW g l = l)
def sameB (g : List (List Int)) (a b : List Int) : Bool := fitsB g a && fitsB g b && decide (canonW g a = canonW g b)
def keepTo (g : List (List Int)) (l : List Int) (j : Nat) : List (List Int) := (g.take j).filter fun p => decide (act p l = l)
def keep (g : List (List Int)) (l : List Int) : List (List Int) := g.filter fun p => decide (act p l = l)
theorem keepTo_step {g : List (List Int)} {l p : List Int} {j : Nat} (hp : g[j]? = some p) : keepTo g l (j + 1) = keepTo g l j ++ (if act p l = l then [p] else []) := by
  unfold keepTo
  rw [List.take_add_one, hp, List.filter_append]
  by_cases h : act p l = l <;> simp [h]
theorem keepTo_all (g : List (List Int)) (l : List Int) {j : Nat} (hj : g.length ≤ j) : keepTo g l j = keep g l := by
  unfold keepTo keep; rw [List.take_of_length_le hj]
theorem keepTo_len (g : List (List Int)) (l : List Int) (j : Nat) : (keepTo g l j).length ≤ g.length := by
  unfold keepTo
  have h1 := List.length_filter_le (fun p => decide (act p l = l)) (g.take j)
  rw [List.length_take] at h1
  omega
def keepW (g : List (List Int)) (l : List Int) : List (List Int) := if fitsB g l = true then keep g l else []
end Go.Proofs.YtdjdagcgodpgdaaGreat.Perms
