/-
  Part 5 of 8 of what the law FnSolids rests on.
-/
import Derived.Test.YtdjdagcgodpgdaaMo4
import Derived.Test.YtdjdagcgodpgdaaRows
import Derived.ProofKit
import Derived.OpenShut
import Derived.SizedLaws
import Derived.Carry
import Derived.Shelf.SlSortCmp.Whole1
import Derived.Test.YtdjdagcgodpgdaaProg
import Derived.Shelf.SlSortCmp.WholeK
import Derived.Shelf.Sort.Plain
set_option maxRecDepth 20000
/- From a law's contract to its row: how arguments are opened. -/
set_option linter.unusedVariables false
namespace Go.Proofs.Ytdjdagcgodpgdaa
open Go.ChangeShapes Go.WideShapes Go.ChangeAt Go.RowKit

theorem Try.own : ownKnob Try.prog.godebug = none := by kernel_rfl
theorem Try.laidOut : laidOutB Try.prog = true := by kernel_rfl
theorem Try.cellsInt : Try.prog.cellsOf 3 = 1 := by kernel_rfl
theorem spot_none {w : World} {b off : Nat} {spot : Option Nat} {x : Value} (h : w.cell? ((⟨b, off, spot⟩ : Addr).add 0) = some x) : spot = none := by simpa [Addr.add] using World.cell?_spot h
theorem cell_add {w : World} {b off i : Nat} {x : Value} (h : w.cell? ((⟨b, off, none⟩ : Addr).add i) = some x) : w.cell? ⟨b, off + i, none⟩ = some x := by
  have e : (⟨b, off, none⟩ : Addr).add i = ⟨b, off + i, none⟩ := by unfold Addr.add; split <;> simp_all
  rw [← e]; exact h
/-- A slice of integers that came in. -/
theorem ints_of_trod {H : Type} {enc : TypeId × Value → H} {W : World} {base : Nat} {spare : Nat → Bool} {held : Bool} {v : Value} {d : DataW H} {p : List MemPlace}
    (h : DataW.Trod enc Try.prog W base spare held 38 v d p) (hv : ∃ a n c, v = .slice a n c) : ∃ xs, IntsAt W v xs := by
  obtain ⟨a0, n0, c0, rfl⟩ := hv
  obtain ⟨fuel, hf⟩ := h
  rcases open_ints Try.underlying38 Try.underlying3 Try.cellsInt hf with ⟨hcs, hx⟩ | ⟨a, len, cap, zs, hcs, _, hl, hm, hz, hx, hcell, hwz⟩
  · simp [Value.cells] at hcs
    obtain ⟨rfl, rfl, rfl⟩ := hcs
    exact ⟨[], none, 0, rfl, Nat.le_refl _, by unfold maxLen; omega, fun _ => rfl, fun k x hk => by simp [ints] at hk⟩
  · simp [Value.cells] at hcs
    obtain ⟨rfl, rfl, rfl⟩ := hcs
    have hlz : n0 ≤ zs.length := by rw [hz]; split <;> omega
    refine ⟨zs.take n0, some a, c0, ?_, ?_, hm, (fun h => by cases h), fun k x hk => ?_⟩
    · rw [ints_len, List.length_take, Nat.min_eq_left hlz]
    · rw [ints_len, List.length_take]; omega
    · obtain ⟨b, off, spot⟩ := a
      have hk' : k < n0 := by have := (List.getElem?_eq_some_iff.1 hk).1; rw [ints_len, List.length_take] at this; omega
      obtain rfl := spot_none (hcell 0 (by omega))
      have hc := cell_add (hcell k (by omega))
      refine ⟨b, off, rfl, ?_⟩
      rw [hc]
      rw [ints_get, List.getElem?_take, if_pos hk', List.getElem?_eq_getElem (by omega)] at hk
      rw [← hk]
      simp [List.getD, List.getElem?_eq_getElem (show k < zs.length by omega)]
theorem Try.cellsInts : Try.prog.cellsOf 38 = 1 := by kernel_rfl
theorem ints_of_cells {H : Type} {enc : TypeId × Value → H} {W : World} {base : Nat} {spare : Nat → Bool} {held : Bool} {fuel : Nat} {cs : List Value} {x : DataW H × List MemPlace}
    (h : DataW.trod enc Try.prog W base spare held fuel 38 cs = some x) : ∃ v xs, cs = [v] ∧ IntsAt W v xs := by
  rcases open_ints Try.underlying38 Try.underlying3 Try.cellsInt h with ⟨hcs, hx⟩ | ⟨a, len, cap, zs, hcs, _, hl, hm, hz, hx, hcell, hwz⟩
  · exact ⟨_, [], hcs, none, 0, rfl, Nat.le_refl _, by unfold maxLen; omega, fun _ => rfl, fun k x hk => by simp [ints] at hk⟩
  · have hlz : len ≤ zs.length := by rw [hz]; split <;> omega
    refine ⟨_, zs.take len, hcs, some a, cap, ?_, ?_, hm, (fun h => by cases h), fun k x hk => ?_⟩
    · rw [ints_len, List.length_take, Nat.min_eq_left hlz]
    · rw [ints_len, List.length_take]; omega
    · obtain ⟨b, off, spot⟩ := a
      have hk' : k < len := by have := (List.getElem?_eq_some_iff.1 hk).1; rw [ints_len, List.length_take] at this; omega
      obtain rfl := spot_none (hcell 0 (by omega))
      have hc := cell_add (hcell k (by omega))
      refine ⟨b, off, rfl, ?_⟩
      rw [hc]
      rw [ints_get, List.getElem?_take, if_pos hk', List.getElem?_eq_getElem (by omega)] at hk
      rw [← hk]
      simp [List.getD, List.getElem?_eq_getElem (show k < zs.length by omega)]
/-- A slice of slices of integers that came in. -/
theorem intss_of_trod {H : Type} {enc : TypeId × Value → H} {W : World} {base : Nat} {spare : Nat → Bool} {held : Bool} {v : Value} {d : DataW H} {p : List MemPlace}
    (h : DataW.Trod enc Try.prog W base spare held 22 v d p) (hv : ∃ a n c, v = .slice a n c) : ∃ xss, RowsAt W v xss := by
  obtain ⟨a0, n0, c0, rfl⟩ := hv
  obtain ⟨fuel, hf⟩ := h
  rcases DataW.trod_slice Try.underlying22 hf with ⟨hcs, hx⟩ | ⟨a, len, cap, elems, rest, n, _, hcs, _, hb, hl, hm, hlen, hel, hsp, hns⟩
  · simp [Value.cells] at hcs
    obtain ⟨rfl, rfl, rfl⟩ := hcs
    exact ⟨[], RowsAt.nil W⟩
  · simp [Value.cells] at hcs
    obtain ⟨rfl, rfl, rfl⟩ := hcs
    obtain ⟨b, off, spot⟩ := a
    have each : ∀ i, i < n0 → ∃ u xs, W.cell? ((⟨b, off, spot⟩ : Addr).add i) = some u ∧ IntsAt W u xs := fun i hi => by
      have e := hel i hi
      rw [List.getElem?_eq_getElem (by omega), Try.cellsInts, Nat.mul_one, Option.bind_eq_some_iff] at e
      obtain ⟨cs', hcs', hy⟩ := e
      obtain ⟨u, xs, rfl, hi⟩ := ints_of_cells hy
      exact ⟨u, xs, cell_of_cells?_one hcs', hi⟩
    have build : ∀ m, m ≤ n0 → ∃ (vs : List Value) (xss : List (List Int)), vs.length = m ∧ xss.length = m ∧ (∀ k u, vs[k]? = some u → W.cell? ((⟨b, off, spot⟩ : Addr).add k) = some u) ∧
        ∀ (k : Nat) (xs : List Int), xss[k]? = some xs → ∃ u, vs[k]? = some u ∧ IntsAt W u xs := by
      intro m
      induction m with
      | zero => exact fun _ => ⟨[], [], rfl, rfl, fun k u h => by simp at h, fun k xs h => by simp at h⟩
      | succ m ih =>
        intro hm
        obtain ⟨vs, xss, l1, l2, c1, c2⟩ := ih (by omega)
        obtain ⟨u, xs, e1, e2⟩ := each m (by omega)
        refine ⟨vs ++ [u], xss ++ [xs], by simp [l1], by simp [l2], fun k z hk => ?_, fun k zs hk => ?_⟩
        · by_cases hkm : k < m
          · rw [List.getElem?_append_left (by omega)] at hk; exact c1 k z hk
          · have := (List.getElem?_eq_some_iff.1 hk).1
            rw [List.length_append, List.length_singleton] at this
            obtain rfl : k = m := by omega
            rw [List.getElem?_append_right (by omega), l1, Nat.sub_self] at hk
            simp at hk; subst hk; exact e1
        · by_cases hkm : k < m
          · rw [List.getElem?_append_left (by omega)] at hk
            obtain ⟨u', h1, h2⟩ := c2 k zs hk
            exact ⟨u', by rw [List.getElem?_append_left (by omega)]; exact h1, h2⟩
          · have := (List.getElem?_eq_some_iff.1 hk).1
            rw [List.length_append, List.length_singleton] at this
            obtain rfl : k = m := by omega
            rw [List.getElem?_append_right (by omega), l2, Nat.sub_self] at hk
            simp at hk; subst hk
            exact ⟨u, by rw [List.getElem?_append_right (by omega), l1, Nat.sub_self]; rfl, e2⟩
    obtain ⟨vs, xss, l1, l2, c1, c2⟩ := build n0 (Nat.le_refl _)
    refine ⟨xss, vs, ⟨some ⟨b, off, spot⟩, c0, by rw [l1], by omega, hm, (fun h => by cases h), fun k x hk => ?_⟩, by omega, c2⟩
    have hc := c1 k x hk
    have hk0 : 0 < n0 := by have := (List.getElem?_eq_some_iff.1 hk).1; omega
    obtain rfl := spot_none (c1 0 _ (List.getElem?_eq_getElem (by omega)))
    exact ⟨b, off, rfl, cell_add hc⟩
theorem Try.cellsByte : Try.prog.cellsOf 5 = 1 := by kernel_rfl
/-- A slice of bytes that came in. -/
theorem bytes_of_trod {H : Type} {enc : TypeId × Value → H} {W : World} {base : Nat} {spare : Nat → Bool} {held : Bool} {v : Value} {d : DataW H} {p : List MemPlace}
    (h : DataW.Trod enc Try.prog W base spare held 32 v d p) (hv : ∃ a n c, v = .slice a n c) : ∃ bs, BytesAt W v bs := by
  obtain ⟨a0, n0, c0, rfl⟩ := hv
  obtain ⟨fuel, hf⟩ := h
  rcases open_ints Try.underlying32 Try.underlying5 Try.cellsByte hf with ⟨hcs, hx⟩ | ⟨a, len, cap, zs, hcs, _, hl, hm, hz, hx, hcell, hwz⟩
  · simp [Value.cells] at hcs
    obtain ⟨rfl, rfl, rfl⟩ := hcs
    exact ⟨[], none, 0, rfl, Nat.le_refl _, by unfold maxLen; omega, fun _ => rfl, fun k x hk => by simp [bytes] at hk⟩
  · simp [Value.cells] at hcs
    obtain ⟨rfl, rfl, rfl⟩ := hcs
    have hlz : n0 ≤ zs.length := by rw [hz]; split <;> omega
    have bl : ∀ l : List Int, (bytes l).length = l.length := fun l => by simp [bytes]
    refine ⟨zs.take n0, some a, c0, ?_, ?_, hm, (fun h => by cases h), fun k x hk => ?_⟩
    · rw [bl, List.length_take, Nat.min_eq_left hlz]
    · rw [bl, List.length_take]; omega
    · obtain ⟨b, off, spot⟩ := a
      have hk' : k < n0 := by have := (List.getElem?_eq_some_iff.1 hk).1; rw [bl, List.length_take] at this; omega
      obtain rfl := spot_none (hcell 0 (by omega))
      have hc := cell_add (hcell k (by omega))
      refine ⟨b, off, rfl, ?_⟩
      rw [hc]
      rw [bytes, List.getElem?_map, List.getElem?_take, if_pos hk', List.getElem?_eq_getElem (by omega)] at hk
      rw [← hk]
      simp [List.getD, List.getElem?_eq_getElem (show k < zs.length by omega)]
end Go.Proofs.Ytdjdagcgodpgdaa
/- 'slices.SortFunc' of lists of integers: the library's contract laid at this program. -/
set_option linter.unusedVariables false
namespace Go.Proofs.Ytdjdagcgodpgdaa
open Go.Shelf

def Try.sortRows_ren : Go.Shelf.Ren := ⟨fun | 6 => 66 | 15 => 84 | 14 => 91 | 28 => 107 | 29 => 108 | 20 => 111 | 21 => 112 | 22 => 113 | 23 => 114 | 24 => 115 | 25 => 116 | 26 => 117 | 27 => 118 | 46 => 132 | 47 => 128 | 48 => 129 | 49 => 133 | 50 => 134 | 57 => 139 | n => n, fun | 22 => 22 | 24 => 38 | 25 => 60 | 3 => 3 | 39 => 76 | 0 => 0 | 53 => 108 | 55 => 110 | 4 => 4 | 46 => 102 | 45 => 101 | 50 => 83 | 5 => 5 | 9 => 9 | 66 => 122 | 70 => 126 | 76 => 132 | 77 => 133 | n => n, fun | n => n⟩
theorem Try.sortRows : SlLaysF.n6 Try.prog Try.sortRows_ren := {
  mixed := by kernel_rfl
  f6 := ⟨Try.f66.name, by decide, Try.func66.trans (congrArg some (by kernel_rfl))⟩
  f14 := ⟨Try.f91.name, by decide, Try.func91.trans (congrArg some (by kernel_rfl))⟩
  f15 := Try.func84.trans (congrArg some (by kernel_rfl))
  f20 := ⟨Try.f111.name, by decide, Try.func111.trans (congrArg some (by kernel_rfl))⟩
  f21 := ⟨Try.f112.name, by decide, Try.func112.trans (congrArg some (by kernel_rfl))⟩
  f22 := ⟨Try.f113.name, by decide, Try.func113.trans (congrArg some (by kernel_rfl))⟩
  f23 := ⟨Try.f114.name, by decide, Try.func114.trans (congrArg some (by kernel_rfl))⟩
  f24 := ⟨Try.f115.name, by decide, Try.func115.trans (congrArg some (by kernel_rfl))⟩
  f25 := ⟨Try.f116.name, by decide, Try.func116.trans (congrArg some (by kernel_rfl))⟩
  f26 := ⟨Try.f117.name, by decide, Try.func117.trans (congrArg some (by kernel_rfl))⟩
  f27 := ⟨Try.f118.name, by decide, Try.func118.trans (congrArg some (by kernel_rfl))⟩
  f28 := Try.func107.trans (congrArg some (by kernel_rfl))
  f29 := Try.func108.trans (congrArg some (by kernel_rfl))
  f46 := ⟨Try.f132.name, by decide, Try.func132.trans (congrArg some (by kernel_rfl))⟩
  f47 := Try.func128.trans (congrArg some (by kernel_rfl))
  f48 := Try.func129.trans (congrArg some (by kernel_rfl))
  f49 := ⟨Try.f133.name, by decide, Try.func133.trans (congrArg some (by kernel_rfl))⟩
  f50 := ⟨Try.f134.name, by decide, Try.func134.trans (congrArg some (by kernel_rfl))⟩
  f57 := ⟨Try.f139.name, by decide, Try.func139.trans (congrArg some (by kernel_rfl))⟩
  t0 := Try.underlying0
  a0 := Try.isAgg0
  z0 := Try.sizeOf0
  v0 := Try.zeroValue0
  t3 := Try.underlying3
  a3 := Try.isAgg3
  z3 := Try.sizeOf3
  v3 := Try.zeroValue3
  t4 := Try.underlying4
  a4 := Try.isAgg4
  z4 := Try.sizeOf4
  v4 := Try.zeroValue4
  t5 := Try.underlying5
  a5 := Try.isAgg5
  z5 := Try.sizeOf5
  v5 := Try.zeroValue5
  t9 := Try.underlying9
  a9 := Try.isAgg9
  z9 := Try.sizeOf9
  v9 := Try.zeroValue9
  t22 := Try.underlying22
  a22 := Try.isAgg22
  z22 := Try.sizeOf22
  v22 := Try.zeroValue22
  a24 := Try.isAgg38
  z24 := Try.sizeOf38
  t25 := Try.underlying60
  a25 := Try.isAgg60
  z25 := Try.sizeOf60
  v25 := Try.zeroValue60
  t39 := Try.underlying76
  a39 := Try.isAgg76
  z39 := Try.sizeOf76
  v39 := Try.zeroValue76
  t45 := Try.underlying101
  a45 := Try.isAgg101
  z45 := Try.sizeOf101
  v45 := Try.zeroValue101
  t46 := Try.underlying102
  a46 := Try.isAgg102
  z46 := Try.sizeOf102
  v46 := Try.zeroValue102
  t50 := Try.underlying83
  a50 := Try.isAgg83
  z50 := Try.sizeOf83
  v50 := Try.zeroValue83
  t53 := Try.underlying108
  a53 := Try.isAgg108
  z53 := Try.sizeOf108
  v53 := Try.zeroValue108
  t55 := Try.underlying110
  a55 := Try.isAgg110
  z55 := Try.sizeOf110
  v55 := Try.zeroValue110
  t66 := Try.underlying122
  a66 := Try.isAgg122
  z66 := Try.sizeOf122
  v66 := Try.zeroValue122
  t70 := Try.underlying126
  a70 := Try.isAgg126
  z70 := Try.sizeOf126
  v70 := Try.zeroValue126
  t76 := Try.underlying132
  a76 := Try.isAgg132
  z76 := Try.sizeOf132
  v76 := Try.zeroValue132
  t77 := Try.underlying133
  a77 := Try.isAgg133
  z77 := Try.sizeOf133
  v77 := Try.zeroValue133 }
end Go.Proofs.Ytdjdagcgodpgdaa
/- 'slices.SortFunc' of terms: the library's contract laid at this program. -/
set_option linter.unusedVariables false
namespace Go.Proofs.Ytdjdagcgodpgdaa
open Go.Shelf

def Try.sortTerms_ren : Go.Shelf.Ren := ⟨fun | 6 => 78 | 15 => 84 | 14 => 95 | 28 => 107 | 29 => 108 | 20 => 119 | 21 => 120 | 22 => 121 | 23 => 122 | 24 => 123 | 25 => 124 | 26 => 125 | 27 => 126 | 46 => 135 | 47 => 128 | 48 => 129 | 49 => 136 | 50 => 137 | 57 => 140 | n => n, fun | 22 => 36 | 24 => 64 | 25 => 89 | 3 => 3 | 39 => 76 | 0 => 0 | 53 => 108 | 55 => 110 | 4 => 4 | 46 => 102 | 45 => 101 | 50 => 83 | 5 => 5 | 9 => 9 | 66 => 122 | 70 => 126 | 76 => 132 | 77 => 133 | n => n, fun | n => n⟩
theorem Try.sortTerms : SlLaysF0.n6 Try.prog Try.sortTerms_ren := {
  mixed := by kernel_rfl
  f6 := ⟨Try.f78.name, by decide, Try.func78.trans (congrArg some (by kernel_rfl))⟩
  f14 := ⟨Try.f95.name, by decide, Try.func95.trans (congrArg some (by kernel_rfl))⟩
  f15 := Try.func84.trans (congrArg some (by kernel_rfl))
  f20 := ⟨Try.f119.name, by decide, Try.func119.trans (congrArg some (by kernel_rfl))⟩
  f21 := ⟨Try.f120.name, by decide, Try.func120.trans (congrArg some (by kernel_rfl))⟩
  f22 := ⟨Try.f121.name, by decide, Try.func121.trans (congrArg some (by kernel_rfl))⟩
  f23 := ⟨Try.f122.name, by decide, Try.func122.trans (congrArg some (by kernel_rfl))⟩
  f24 := ⟨Try.f123.name, by decide, Try.func123.trans (congrArg some (by kernel_rfl))⟩
  f25 := ⟨Try.f124.name, by decide, Try.func124.trans (congrArg some (by kernel_rfl))⟩
  f26 := ⟨Try.f125.name, by decide, Try.func125.trans (congrArg some (by kernel_rfl))⟩
  f27 := ⟨Try.f126.name, by decide, Try.func126.trans (congrArg some (by kernel_rfl))⟩
  f28 := Try.func107.trans (congrArg some (by kernel_rfl))
  f29 := Try.func108.trans (congrArg some (by kernel_rfl))
  f46 := ⟨Try.f135.name, by decide, Try.func135.trans (congrArg some (by kernel_rfl))⟩
  f47 := Try.func128.trans (congrArg some (by kernel_rfl))
  f48 := Try.func129.trans (congrArg some (by kernel_rfl))
  f49 := ⟨Try.f136.name, by decide, Try.func136.trans (congrArg some (by kernel_rfl))⟩
  f50 := ⟨Try.f137.name, by decide, Try.func137.trans (congrArg some (by kernel_rfl))⟩
  f57 := ⟨Try.f140.name, by decide, Try.func140.trans (congrArg some (by kernel_rfl))⟩
  t0 := Try.underlying0
  a0 := Try.isAgg0
  z0 := Try.sizeOf0
  v0 := Try.zeroValue0
  t3 := Try.underlying3
  a3 := Try.isAgg3
  z3 := Try.sizeOf3
  v3 := Try.zeroValue3
  t4 := Try.underlying4
  a4 := Try.isAgg4
  z4 := Try.sizeOf4
  v4 := Try.zeroValue4
  t5 := Try.underlying5
  a5 := Try.isAgg5
  z5 := Try.sizeOf5
  v5 := Try.zeroValue5
  t9 := Try.underlying9
  a9 := Try.isAgg9
  z9 := Try.sizeOf9
  v9 := Try.zeroValue9
  t22 := Try.underlying36
  a22 := Try.isAgg36
  z22 := Try.sizeOf36
  v22 := Try.zeroValue36
  t25 := Try.underlying89
  a25 := Try.isAgg89
  z25 := Try.sizeOf89
  v25 := Try.zeroValue89
  t39 := Try.underlying76
  a39 := Try.isAgg76
  z39 := Try.sizeOf76
  v39 := Try.zeroValue76
  t45 := Try.underlying101
  a45 := Try.isAgg101
  z45 := Try.sizeOf101
  v45 := Try.zeroValue101
  t46 := Try.underlying102
  a46 := Try.isAgg102
  z46 := Try.sizeOf102
  v46 := Try.zeroValue102
  t50 := Try.underlying83
  a50 := Try.isAgg83
  z50 := Try.sizeOf83
  v50 := Try.zeroValue83
  t53 := Try.underlying108
  a53 := Try.isAgg108
  z53 := Try.sizeOf108
  v53 := Try.zeroValue108
  t55 := Try.underlying110
  a55 := Try.isAgg110
  z55 := Try.sizeOf110
  v55 := Try.zeroValue110
  t66 := Try.underlying122
  a66 := Try.isAgg122
  z66 := Try.sizeOf122
  v66 := Try.zeroValue122
  t70 := Try.underlying126
  a70 := Try.isAgg126
  z70 := Try.sizeOf126
  v70 := Try.zeroValue126
  t76 := Try.underlying132
  a76 := Try.isAgg132
  z76 := Try.sizeOf132
  v76 := Try.zeroValue132
  t77 := Try.underlying133
  a77 := Try.isAgg133
  z77 := Try.sizeOf133
  v77 := Try.zeroValue133 }
end Go.Proofs.Ytdjdagcgodpgdaa
/- slices.Sort of integers: the library's contract laid at this program. -/
set_option linter.unusedVariables false
namespace Go.Proofs.Ytdjdagcgodpgdaa
open Go.Shelf

def Try.sortI_ren : Go.Shelf.Ren := ⟨fun | 189 => 48 | 125 => 84 | 257 => 83 | 128 => 107 | 129 => 108 | 294 => 98 | 295 => 99 | 296 => 100 | 297 => 101 | 298 => 102 | 299 => 103 | 216 => 104 | 300 => 105 | 301 => 106 | 328 => 127 | 329 => 128 | 330 => 129 | 331 => 130 | 332 => 131 | 215 => 94 | 343 => 138 | n => n, fun | 28 => 38 | 3 => 3 | 46 => 76 | 0 => 0 | 51 => 108 | 53 => 110 | 4 => 4 | 183 => 102 | 182 => 101 | 131 => 83 | 5 => 5 | 9 => 9 | 218 => 122 | 222 => 126 | 228 => 132 | 229 => 133 | n => n, fun | n => n⟩
theorem Try.sortI : Lays.n189 Try.prog Try.sortI_ren := {
  mixed := by kernel_rfl
  f125 := Try.func84.trans (congrArg some (by kernel_rfl))
  f128 := Try.func107.trans (congrArg some (by kernel_rfl))
  f129 := Try.func108.trans (congrArg some (by kernel_rfl))
  f189 := Try.func48.trans (congrArg some (by kernel_rfl))
  f215 := Try.func94.trans (congrArg some (by kernel_rfl))
  f216 := Try.func104.trans (congrArg some (by kernel_rfl))
  f257 := Try.func83.trans (congrArg some (by kernel_rfl))
  f294 := Try.func98.trans (congrArg some (by kernel_rfl))
  f295 := Try.func99.trans (congrArg some (by kernel_rfl))
  f296 := Try.func100.trans (congrArg some (by kernel_rfl))
  f297 := Try.func101.trans (congrArg some (by kernel_rfl))
  f298 := Try.func102.trans (congrArg some (by kernel_rfl))
  f299 := Try.func103.trans (congrArg some (by kernel_rfl))
  f300 := Try.func105.trans (congrArg some (by kernel_rfl))
  f301 := Try.func106.trans (congrArg some (by kernel_rfl))
  f328 := Try.func127.trans (congrArg some (by kernel_rfl))
  f329 := Try.func128.trans (congrArg some (by kernel_rfl))
  f330 := Try.func129.trans (congrArg some (by kernel_rfl))
  f331 := Try.func130.trans (congrArg some (by kernel_rfl))
  f332 := Try.func131.trans (congrArg some (by kernel_rfl))
  f343 := Try.func138.trans (congrArg some (by kernel_rfl))
  t0 := Try.underlying0
  a0 := Try.isAgg0
  z0 := Try.sizeOf0
  v0 := Try.zeroValue0
  t3 := Try.underlying3
  a3 := Try.isAgg3
  z3 := Try.sizeOf3
  v3 := Try.zeroValue3
  t4 := Try.underlying4
  a4 := Try.isAgg4
  z4 := Try.sizeOf4
  v4 := Try.zeroValue4
  t5 := Try.underlying5
  a5 := Try.isAgg5
  z5 := Try.sizeOf5
  v5 := Try.zeroValue5
  t9 := Try.underlying9
  a9 := Try.isAgg9
  z9 := Try.sizeOf9
  v9 := Try.zeroValue9
  t28 := Try.underlying38
  a28 := Try.isAgg38
  z28 := Try.sizeOf38
  v28 := Try.zeroValue38
  t46 := Try.underlying76
  a46 := Try.isAgg76
  z46 := Try.sizeOf76
  v46 := Try.zeroValue76
  t51 := Try.underlying108
  a51 := Try.isAgg108
  z51 := Try.sizeOf108
  v51 := Try.zeroValue108
  t53 := Try.underlying110
  a53 := Try.isAgg110
  z53 := Try.sizeOf110
  v53 := Try.zeroValue110
  t131 := Try.underlying83
  a131 := Try.isAgg83
  z131 := Try.sizeOf83
  v131 := Try.zeroValue83
  t182 := Try.underlying101
  a182 := Try.isAgg101
  z182 := Try.sizeOf101
  v182 := Try.zeroValue101
  t183 := Try.underlying102
  a183 := Try.isAgg102
  z183 := Try.sizeOf102
  v183 := Try.zeroValue102
  t218 := Try.underlying122
  a218 := Try.isAgg122
  z218 := Try.sizeOf122
  v218 := Try.zeroValue122
  t222 := Try.underlying126
  a222 := Try.isAgg126
  z222 := Try.sizeOf126
  v222 := Try.zeroValue126
  t228 := Try.underlying132
  a228 := Try.isAgg132
  z228 := Try.sizeOf132
  v228 := Try.zeroValue132
  t229 := Try.underlying133
  a229 := Try.isAgg133
  z229 := Try.sizeOf133
  v229 := Try.zeroValue133 }
end Go.Proofs.Ytdjdagcgodpgdaa
