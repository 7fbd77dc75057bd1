/-
  The cycles of a permutation, as both sides walk them.
-/
import Derived.Test.YtdjdagcgodpgdaaOrbit
import Derived.Test.YtdjdagcgodpgdaaImgS
import Derived.Test.YtdjdagcgodpgdaaGof0
set_option linter.unusedVariables false
namespace Go.Proofs.Ytdjdagcgodpgdaa
open Go.RowKit

/-- From 'a' on, until what was seen is met again. -/
def Perms.cycW (p : List Int) : Nat → Nat → List Nat → List Int → List Nat × List Int
  | 0, _, seen, row => (seen, row)
  | f + 1, a, seen, row => if a ∈ seen then (seen, row) else Perms.cycW p f (p.getD a 0).toNat (seen ++ [a]) (row ++ [(a : Int)])
def Perms.cycTo (p : List Int) : Nat → List Nat × List (List Int)
  | 0 => ([], [])
  | j + 1 =>
    let s := Perms.cycTo p j
    if j ∈ s.1 then s else
      let r := Perms.cycW p (p.length + 1 - s.1.length) j s.1 []
      (r.1, s.2 ++ [r.2])
def Perms.cycles (p : List Int) : List (List Int) := if Perms.permB p = true then (Perms.cycTo p p.length).2 else []
/-- What was seen: points, each once. -/
def Perms.Seen (n : Nat) (s : List Nat) : Prop := s.Nodup ∧ ∀ x ∈ s, x < n
theorem Perms.Seen.len {n : Nat} {s : List Nat} (h : Perms.Seen n s) : s.length ≤ n := by
  have := Perms.subset_len h.1 (fun x hx => List.mem_range.2 (h.2 x hx))
  rwa [List.length_range] at this
theorem Perms.Seen.push {n a : Nat} {s : List Nat} (h : Perms.Seen n s) (ha : a < n) (hs : a ∉ s) : Perms.Seen n (s ++ [a]) := by
  refine ⟨?_, fun x hx => ?_⟩
  · rw [List.nodup_append]
    refine ⟨h.1, by simp, fun x hx y hy => ?_⟩
    rw [List.mem_singleton] at hy
    subst hy
    intro e
    subst e
    exact hs hx
  · rcases List.mem_append.1 hx with hx | hx
    · exact h.2 x hx
    · rw [List.mem_singleton] at hx
      omega
theorem Perms.cycW_seen {p : List Int} (hR : Perms.inR p.length p) : ∀ (f a : Nat) (s : List Nat) (row : List Int), Perms.Seen p.length s → a < p.length → Perms.Seen p.length (Perms.cycW p f a s row).1
  | 0, a, s, row, h, _ => h
  | f + 1, a, s, row, h, ha => by
    unfold Perms.cycW
    by_cases hs : a ∈ s
    · rw [if_pos hs]; exact h
    · rw [if_neg hs]
      refine Perms.cycW_seen hR f _ _ _ (h.push ha hs) ?_
      have h2 := hR.2 (p.getD a 0) (by rw [List.getD, List.getElem?_eq_getElem ha]; exact List.getElem_mem ha)
      omega
theorem Perms.cycTo_seen {p : List Int} (hR : Perms.inR p.length p) : ∀ j, j ≤ p.length → Perms.Seen p.length (Perms.cycTo p j).1
  | 0, _ => ⟨by simp [Perms.cycTo], by simp [Perms.cycTo]⟩
  | j + 1, hj => by
    have ih := Perms.cycTo_seen hR j (by omega)
    unfold Perms.cycTo
    by_cases hs : j ∈ (Perms.cycTo p j).1
    · rw [if_pos hs]; exact ih
    · rw [if_neg hs]
      exact Perms.cycW_seen hR _ _ _ _ ih (by omega)
theorem Perms.cycW_row {p : List Int} : ∀ (f a : Nat) (s : List Nat) (row : List Int), (Perms.cycW p f a s row).2.length + s.length = row.length + (Perms.cycW p f a s row).1.length
  | 0, a, s, row => by simp [Perms.cycW]; 
  | f + 1, a, s, row => by
    unfold Perms.cycW
    by_cases hs : a ∈ s
    · rw [if_pos hs]
    · rw [if_neg hs]
      have := Perms.cycW_row (p := p) f (p.getD a 0).toNat (s ++ [a]) (row ++ [(a : Int)])
      simp only [List.length_append, List.length_singleton] at this
      omega
theorem Perms.cycTo_len (p : List Int) : ∀ j, (Perms.cycTo p j).2.length ≤ j
  | 0 => by simp [Perms.cycTo]
  | j + 1 => by
    have ih := Perms.cycTo_len p j
    unfold Perms.cycTo
    by_cases hs : j ∈ (Perms.cycTo p j).1
    · rw [if_pos hs]; omega
    · rw [if_neg hs]; simp; omega
/-- A store into the flags leaves the rows. -/
theorem BoolsIn.keepOwn {w : World} {b n B k : Nat} {T : TypeId} {P : Nat → Bool} (h : BoolsIn w b 4 n P) {v : Value} {xs : List Value} (ho : Own w B T v xs) (hT : T ≠ 4) (u : Value) : Own (w.setCell ⟨b, k, none⟩ u) B T v xs :=
  Own.setOther ho u (fun e => by
    obtain ⟨cur, hc⟩ := Own.block ho e
    obtain ⟨arr, h1, _⟩ := h
    rw [h1] at hc
    simp only [Option.some.injEq, Obj.cells.injEq] at hc
    exact hT hc.2.1.symm)
theorem BoolsIn.keepRows {w : World} {b n B E k : Nat} {P : Nat → Bool} (h : BoolsIn w b 4 n P) {us : List Value} {xss : List (List Int)} (hr : Rows w B E us xss) (u : Value) : Rows (w.setCell ⟨b, k, none⟩ u) B E us xss :=
  ⟨hr.1, fun i xs hi => by
    obtain ⟨z, h1, h2, h3⟩ := hr.2.1 i xs hi
    exact ⟨z, h1, h.keepOwn h2 (by decide) u, h3⟩, hr.2.2⟩
theorem BoolsIn.apartOf {w : World} {b n B : Nat} {T : TypeId} {P : Nat → Bool} (h : BoolsIn w b 4 n P) {v : Value} {xs : List Value} (ho : Own w B T v xs) (hT : T ≠ 4) : v.ownBlock ≠ some b := fun e => by
  obtain ⟨cur, hc⟩ := Own.block ho e
  obtain ⟨arr, h1, _⟩ := h
  rw [h1] at hc
  simp only [Option.some.injEq, Obj.cells.injEq] at hc
  exact hT hc.2.1.symm
end Go.Proofs.Ytdjdagcgodpgdaa
