/-
  Sorting a slice of integers of the call's own: out of the library's contract.
-/
import Derived.Test.YtdjdagcgodpgdaaGreatSortILay
import Derived.Test.YtdjdagcgodpgdaaGreatSortR
set_option linter.unusedVariables false
namespace Go.Proofs.YtdjdagcgodpgdaaGreat
open Go.RowKit

theorem grownBy_sortWorld {α : Type} [Inhabited α] (enc : α → Value) (w : World) (blk off m : Nat) (dk : Array α) (os : Array Obj) : w.grownBy (sortWorld enc w blk off m dk os) (some blk) :=
  ⟨rfl, rfl, rfl, by unfold sortWorld; simp, fun k hk hne => heap_sortWorld enc w blk off m dk os hk (fun e => hne (by rw [e]))⟩
def Perms.srt (xs : List Int) : List Int := xs.mergeSort fun x y => decide (x ≤ y)
theorem Perms.srt_len (xs : List Int) : (Perms.srt xs).length = xs.length := List.length_mergeSort xs
theorem Perms.srt_two (a b : Int) : Perms.srt [a, b] = if a ≤ b then [a, b] else [b, a] := by
  by_cases h : a ≤ b <;> simp [Perms.srt, List.mergeSort, List.MergeSort.Internal.splitInTwo, List.merge, h]
theorem sortI_c {v : Value} {xs : List Int} {w : World} {B : Nat} {Q : Ending → World → Prop} (ho : OwnInts w B v xs) (hB : B ≤ w.heap.size) (hn : 0 < xs.length) (hbig : xs.length ≤ 1048576)
    (hQ : ∀ w', OwnInts w' B v (Perms.srt xs) → Below B w w' → w.grownBy w' v.ownBlock → Q (.returned (.tuple #[])) w') :
    Calls Tryz.prog 85 #[v] w Q := by
  obtain ⟨aa, ca, rfl, la, lca, cca⟩ := Own.form ho
  obtain ⟨g, rfl, hgB, hgl⟩ := Own.head ho (by rw [ints_len]; exact hn)
  have hH : Go.Sort.Holds (Value.int .i64) w g 0 xs.toArray := by
    intro j hj
    have hj' : j < xs.length := by simpa using hj
    refine ⟨?_, Own.frozen ho _⟩
    rw [Nat.zero_add, Own.cell ho (k := j) (x := .int .i64 xs[j]) (by rw [ints_get, List.getElem?_eq_getElem hj']; rfl)]
    simp [hj']
  have hc := Any.slices_Sort_int Tryz.sortI g 0 ca xs w hH hgl (by omega)
  rw [ints_len] at ho hQ ⊢
  refine hc.mono ?_
  rintro e w' ⟨rfl, n, os, rfl⟩
  have ow := own_sortWorld (Value.int .i64) ho n (Perms.srt xs).toArray os (by simp [Perms.srt])
  refine hQ _ ?_ (below_sortWorld (Value.int .i64) hB hgB 0 n (Perms.srt xs).toArray os) (grownBy_sortWorld (Value.int .i64) w g 0 n (Perms.srt xs).toArray os)
  have e : (Perms.srt xs).toArray.toList.map (Value.int .i64) = ints (Perms.srt xs) := rfl
  rw [e] at ow
  exact ow
end Go.Proofs.YtdjdagcgodpgdaaGreat
