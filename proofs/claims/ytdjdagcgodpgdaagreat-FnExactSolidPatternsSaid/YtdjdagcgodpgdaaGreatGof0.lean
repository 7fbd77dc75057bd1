/-
  The group that some permutations make, element by element. No program in sight.
-/
import Derived.Test.YtdjdagcgodpgdaaGreatIsort
import Derived.Test.YtdjdagcgodpgdaaGreatOrbit
import Derived.Test.YtdjdagcgodpgdaaGreatWordsN
set_option linter.unusedVariables false
namespace Go.Proofs.YtdjdagcgodpgdaaGreat.Perms

/-- A list of n points out of n. -/
def inR (n : Nat) (p : List Int) : Prop := p.length = n ∧ ∀ x ∈ p, 0 ≤ x ∧ x < n
theorem inR_iota (n : Nat) : inR n (iota n) := ⟨iota_len n, fun x hx => by
  unfold iota at hx
  obtain ⟨k, hk, rfl⟩ := List.mem_map.1 hx
  have := List.mem_range.1 hk
  omega⟩
theorem inR_comp {n : Nat} {p q : List Int} (hp : inR n p) (hq : inR n q) : inR n (comp p q) := by
  refine ⟨by rw [comp_len]; exact hp.1, fun x hx => ?_⟩
  unfold comp at hx
  obtain ⟨y, hy, rfl⟩ := List.mem_map.1 hx
  have h := hp.2 y hy
  have hl : y.toNat < q.length := by rw [hq.1]; omega
  have : q.getD y.toNat 0 = q[y.toNat] := by simp [List.getD, List.getElem?_eq_getElem hl]
  rw [this]
  exact hq.2 _ (List.getElem_mem hl)
theorem permB_inR {p : List Int} (h : permB p = true) : inR p.length p := ⟨rfl, permB_range h⟩
/-- One product: it is there already; or there is no room; or it is the next one. -/
def stepG (o : Option (List (List Int))) (q : List Int) : Option (List (List Int)) := o.bind fun out => if q ∈ out then some out else if out.length = 120 then none else some (out ++ [q])
def rowTo (gens : List (List Int)) (p : List Int) (out : List (List Int)) (t : Nat) : Option (List (List Int)) := (gens.take t).foldl (fun o s => stepG o (comp p s)) (some out)
def bfs (gens : List (List Int)) : Nat → Nat → List (List Int) → Option (List (List Int))
  | 0, _, out => some out
  | f + 1, a, out => match out[a]? with
    | none => some out
    | some p => (rowTo gens p out gens.length).bind (bfs gens f (a + 1))
def gokB (n : Int) (gens : List (List Int)) : Bool := decide (1 ≤ n ∧ n ≤ 10) && gens.all fun p => permB p && decide ((p.length : Int) = n)
def gofO (n : Int) (gens : List (List Int)) : Option (List (List Int)) := if gokB n gens = true then bfs gens 121 0 [iota n.toNat] else none
def gofW (n : Int) (gens : List (List Int)) : List (List Int) := ((gofO n gens).map isort).getD []
def gofB (n : Int) (gens : List (List Int)) : Bool := (gofO n gens).isSome
theorem foldl_none (p : List Int) : ∀ l : List (List Int), l.foldl (fun o s => stepG o (comp p s)) none = none
  | [] => rfl
  | s :: l => foldl_none p l
theorem rowTo_step {gens : List (List Int)} {p s : List Int} {out : List (List Int)} {t : Nat} (hs : gens[t]? = some s) : rowTo gens p out (t + 1) = stepG (rowTo gens p out t) (comp p s) := by
  unfold rowTo
  rw [List.take_add_one, hs, List.foldl_append]
  rfl
theorem rowTo_none {gens : List (List Int)} {p : List Int} {out : List (List Int)} {t : Nat} (h : rowTo gens p out t = none) : rowTo gens p out gens.length = none := by
  unfold rowTo at h ⊢
  have e : gens.take gens.length = gens.take t ++ gens.drop t := by rw [List.take_length, List.take_append_drop]
  rw [e, List.foldl_append, h, foldl_none]
theorem bfs_row {gens out : List (List Int)} {p : List Int} {f a : Nat} (h : out[a]? = some p) : bfs gens (f + 1) a out = (rowTo gens p out gens.length).bind (bfs gens f (a + 1)) := by
  simp only [bfs]
  rw [h]
theorem bfs_end {gens out : List (List Int)} {f a : Nat} (h : out.length ≤ a) : bfs gens (f + 1) a out = some out := by
  simp only [bfs]
  rw [List.getElem?_eq_none h]
/-- What holds of the list all the way. -/
structure GofInv (n : Nat) (out : List (List Int)) : Prop where
  nd : out.Nodup
  rg : ∀ p ∈ out, inR n p
  le : out.length ≤ 120
theorem GofInv.start {n : Nat} : GofInv n [iota n] := ⟨by simp, fun p hp => by rw [List.mem_singleton] at hp; rw [hp]; exact inR_iota n, by simp⟩
theorem GofInv.add {n : Nat} {out : List (List Int)} {q : List Int} (h : GofInv n out) (hq : inR n q) (hm : q ∉ out) (hl : out.length ≠ 120) : GofInv n (out ++ [q]) := by
  refine ⟨?_, fun p hp => ?_, ?_⟩
  · rw [List.nodup_append]
    refine ⟨h.nd, by simp, fun a ha b hb e => ?_⟩
    rw [List.mem_singleton] at hb
    subst e; subst hb
    exact hm ha
  · rcases List.mem_append.1 hp with hp | hp
    · exact h.rg p hp
    · rw [List.mem_singleton] at hp; rw [hp]; exact hq
  · have := h.le
    rw [List.length_append, List.length_singleton]
    omega
theorem gok_parts {n : Int} {gens : List (List Int)} (h : gokB n gens = true) : 1 ≤ n ∧ n ≤ 10 ∧ ∀ p ∈ gens, permB p = true ∧ (p.length : Int) = n := by
  unfold gokB at h
  simp only [Bool.and_eq_true, decide_eq_true_eq, List.all_eq_true] at h
  exact ⟨h.1.1, h.1.2, h.2⟩
theorem gok_inR {n : Nat} {gens : List (List Int)} (h : gokB n gens = true) : ∀ p ∈ gens, inR n p := fun p hp => by
  obtain ⟨_, _, h3⟩ := gok_parts h
  obtain ⟨h4, h5⟩ := h3 p hp
  have e : p.length = n := by omega
  have := permB_inR h4
  rwa [e] at this
/-- Of a list without repetitions the sorted one ascends strictly. -/
theorem isort_asc {l : List (List Int)} (h : l.Nodup) : Asc (isort l) := by
  rw [Asc.pairwise]
  have h1 := isort_sorted l
  have h2 : (isort l).Nodup := (isort_perm l).nodup_iff.2 h
  rw [List.nodup_iff_pairwise_ne] at h2
  unfold Words.Sorted at h1
  refine (List.pairwise_and_iff.2 ⟨h1, h2⟩).imp ?_
  rintro a b ⟨h3, h4⟩
  have h5 := Words.cmpL_neg a b
  by_cases e : Words.cmpL a b = 0
  · exact absurd (Words.cmpL_eq e) h4
  · omega
theorem isort_mem {l : List (List Int)} {x : List Int} : x ∈ isort l ↔ x ∈ l := (isort_perm l).mem_iff
end Go.Proofs.YtdjdagcgodpgdaaGreat.Perms
