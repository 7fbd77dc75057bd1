/-
  The generators that the program uses, and that they make the reference's groups: a finite check.
-/
import Derived.Test.YtdjdagcgodpgdaaGreatCub
import Derived.Test.YtdjdagcgodpgdaaGreatSolS
set_option linter.unusedVariables false
namespace Go.Proofs.YtdjdagcgodpgdaaGreat
open Go.RowKit

def Perms.face : List V3 := [(0, 0, 1), (0, 0, -1), (0, 1, 0), (0, -1, 0), (1, 0, 0), (-1, 0, 0)]
def Perms.cornTo (i : Nat) : List V3 := (List.range i).map fun i => (2 * ((i % 2 : Nat) : Int) - 1, 2 * ((i / 2 % 2 : Nat) : Int) - 1, 2 * ((i / 4 % 2 : Nat) : Int) - 1)
def Perms.mv1 : V3 → V3 := fun t => (-t.2.1, t.1, t.2.2)
def Perms.mv2 : V3 → V3 := fun t => (t.2.1, t.2.2, t.1)
def Perms.mv3 : V3 → V3 := fun t => (t.1, t.2.1, -t.2.2)
def Perms.ibase (m : Bool) : List (List Int) := if m = true then [[1, 2, 0, 3], [0, 2, 3, 1], [1, 0, 2, 3]] else [[1, 2, 0, 3], [0, 2, 3, 1]]
def Perms.imvs (m : Bool) : List (V3 → V3) := if m = true then [Perms.mv1, Perms.mv2, Perms.mv3] else [Perms.mv1, Perms.mv2]
def Perms.ispot (k : Int) : List V3 := if k = 3 then Perms.face else Perms.cornTo 8
def Perms.igens (k : Int) (m : Bool) : List (List Int) := if k = 1 then Perms.ibase m else if k = 2 then (Perms.ibase m).map Perms.mvAct else (Perms.imvs m).map fun mv => permTo (Perms.ispot k) mv (Perms.ispot k).length
def Perms.srt2 : List Int → List Int
  | [a, b] => if a ≤ b then [a, b] else [b, a]
  | l => l
theorem Perms.srt_of_two {l : List Int} (h : l.length = 2) : Perms.srt l = Perms.srt2 l := by
  match l, h with
  | [a, b], _ => exact Perms.srt_two a b
theorem Perms.mvAct_eq (p : List Int) : Perms.mvAct p = (Perms.subs 2 0).map fun x => Perms.idx (Perms.subs 2 0) (Perms.srt2 (Perms.img p x)) := by
  unfold Perms.mvAct Perms.mvTo
  rw [List.take_of_length_le (Nat.le_refl _)]
  refine List.map_congr_left fun x hx => ?_
  rw [Perms.srt_of_two (by unfold Perms.img; rw [List.length_map]; exact (Perms.subs_rng2 x hx).1)]
theorem Perms.ibase_act (m : Bool) : (Perms.ibase m).map Perms.mvAct = (Perms.ibase m).map Perms.pairAct := by
  refine List.map_congr_left fun p hp => ?_
  rw [Perms.mvAct_eq]
  revert p hp
  cases m <;> decide +kernel
theorem Perms.same (k : Int) (m : Bool) (hk : 1 ≤ k ∧ k ≤ 4) : Perms.gofW (Nums.sdeg k) (Perms.igens k m) = Perms.solW k m ∧ Perms.gofB (Nums.sdeg k) (Perms.igens k m) = Perms.solB k m := by
  have e : (Perms.gofO (Nums.sdeg k) (Perms.igens k m)).map Perms.isort = (Perms.solO k m).map Perms.isort := by
    obtain rfl | rfl | rfl | rfl : k = 1 ∨ k = 2 ∨ k = 3 ∨ k = 4 := by omega
    · cases m <;> decide +kernel
    · unfold Perms.igens
      rw [if_neg (by decide), if_pos rfl, Perms.ibase_act]
      cases m <;> decide +kernel
    · cases m <;> decide +kernel
    · cases m <;> decide +kernel
  unfold Perms.gofW Perms.gofB Perms.solW Perms.solB
  rw [e]
  refine ⟨rfl, ?_⟩
  rw [← Option.isSome_map (f := Perms.isort), e, Option.isSome_map]
end Go.Proofs.YtdjdagcgodpgdaaGreat
