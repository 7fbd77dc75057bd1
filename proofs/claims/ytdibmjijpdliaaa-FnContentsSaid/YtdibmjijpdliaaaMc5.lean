/-
  Part 5 of 6 of what the law FnContents rests on.
-/
import Derived.Test.YtdibmjijpdliaaaMc4
import Derived.Test.YtdibmjijpdliaaaRows
import Derived.ProofKit
import Derived.OpenShut
import Derived.SizedLaws
import Derived.Carry
import Derived.Shelf.SlSortCmp.Whole1
import Derived.Test.YtdibmjijpdliaaaProg
import Derived.Shelf.Sort.Plain
import Derived.Lib.SliceRun
import Derived.Shelf.Abstract
set_option maxRecDepth 20000
/- From a law's contract to its row: how arguments are opened. -/
set_option linter.unusedVariables false
namespace Go.Proofs.Ytdibmjijpdliaaa
open Go.ChangeShapes Go.WideShapes Go.ChangeAt Go.RowKit

theorem Try.own : ownKnob Try.prog.godebug = none := by kernel_rfl
theorem Try.laidOut : laidOutB Try.prog = true := by kernel_rfl
theorem Try.cellsInt : Try.prog.cellsOf 3 = 1 := by kernel_rfl
theorem spot_none {w : World} {b off : Nat} {spot : Option Nat} {x : Value} (h : w.cell? ((⟨b, off, spot⟩ : Addr).add 0) = some x) : spot = none := by simpa [Addr.add] using World.cell?_spot h
theorem cell_add {w : World} {b off i : Nat} {x : Value} (h : w.cell? ((⟨b, off, none⟩ : Addr).add i) = some x) : w.cell? ⟨b, off + i, none⟩ = some x := by
  have e : (⟨b, off, none⟩ : Addr).add i = ⟨b, off + i, none⟩ := by unfold Addr.add; split <;> simp_all
  rw [← e]; exact h
/-- A slice of integers that came in. -/
theorem ints_of_trod {H : Type} {enc : TypeId × Value → H} {W : World} {base : Nat} {spare : Nat → Bool} {held : Bool} {v : Value} {d : DataW H} {p : List MemPlace}
    (h : DataW.Trod enc Try.prog W base spare held 25 v d p) (hv : ∃ a n c, v = .slice a n c) : ∃ xs, IntsAt W v xs := by
  obtain ⟨a0, n0, c0, rfl⟩ := hv
  obtain ⟨fuel, hf⟩ := h
  rcases open_ints Try.underlying25 Try.underlying3 Try.cellsInt hf with ⟨hcs, hx⟩ | ⟨a, len, cap, zs, hcs, _, hl, hm, hz, hx, hcell, hwz⟩
  · simp [Value.cells] at hcs
    obtain ⟨rfl, rfl, rfl⟩ := hcs
    exact ⟨[], none, 0, rfl, Nat.le_refl _, by unfold maxLen; omega, fun _ => rfl, fun k x hk => by simp [ints] at hk⟩
  · simp [Value.cells] at hcs
    obtain ⟨rfl, rfl, rfl⟩ := hcs
    have hlz : n0 ≤ zs.length := by rw [hz]; split <;> omega
    refine ⟨zs.take n0, some a, c0, ?_, ?_, hm, (fun h => by cases h), fun k x hk => ?_⟩
    · rw [ints_len, List.length_take, Nat.min_eq_left hlz]
    · rw [ints_len, List.length_take]; omega
    · obtain ⟨b, off, spot⟩ := a
      have hk' : k < n0 := by have := (List.getElem?_eq_some_iff.1 hk).1; rw [ints_len, List.length_take] at this; omega
      obtain rfl := spot_none (hcell 0 (by omega))
      have hc := cell_add (hcell k (by omega))
      refine ⟨b, off, rfl, ?_⟩
      rw [hc]
      rw [ints_get, List.getElem?_take, if_pos hk', List.getElem?_eq_getElem (by omega)] at hk
      rw [← hk]
      simp [List.getD, List.getElem?_eq_getElem (show k < zs.length by omega)]
theorem Try.cellsInts : Try.prog.cellsOf 25 = 1 := by kernel_rfl
theorem ints_of_cells {H : Type} {enc : TypeId × Value → H} {W : World} {base : Nat} {spare : Nat → Bool} {held : Bool} {fuel : Nat} {cs : List Value} {x : DataW H × List MemPlace}
    (h : DataW.trod enc Try.prog W base spare held fuel 25 cs = some x) : ∃ v xs, cs = [v] ∧ IntsAt W v xs := by
  rcases open_ints Try.underlying25 Try.underlying3 Try.cellsInt h with ⟨hcs, hx⟩ | ⟨a, len, cap, zs, hcs, _, hl, hm, hz, hx, hcell, hwz⟩
  · exact ⟨_, [], hcs, none, 0, rfl, Nat.le_refl _, by unfold maxLen; omega, fun _ => rfl, fun k x hk => by simp [ints] at hk⟩
  · have hlz : len ≤ zs.length := by rw [hz]; split <;> omega
    refine ⟨_, zs.take len, hcs, some a, cap, ?_, ?_, hm, (fun h => by cases h), fun k x hk => ?_⟩
    · rw [ints_len, List.length_take, Nat.min_eq_left hlz]
    · rw [ints_len, List.length_take]; omega
    · obtain ⟨b, off, spot⟩ := a
      have hk' : k < len := by have := (List.getElem?_eq_some_iff.1 hk).1; rw [ints_len, List.length_take] at this; omega
      obtain rfl := spot_none (hcell 0 (by omega))
      have hc := cell_add (hcell k (by omega))
      refine ⟨b, off, rfl, ?_⟩
      rw [hc]
      rw [ints_get, List.getElem?_take, if_pos hk', List.getElem?_eq_getElem (by omega)] at hk
      rw [← hk]
      simp [List.getD, List.getElem?_eq_getElem (show k < zs.length by omega)]
/-- A slice of slices of integers that came in. -/
theorem intss_of_trod {H : Type} {enc : TypeId × Value → H} {W : World} {base : Nat} {spare : Nat → Bool} {held : Bool} {v : Value} {d : DataW H} {p : List MemPlace}
    (h : DataW.Trod enc Try.prog W base spare held 23 v d p) (hv : ∃ a n c, v = .slice a n c) : ∃ xss, RowsAt W v xss := by
  obtain ⟨a0, n0, c0, rfl⟩ := hv
  obtain ⟨fuel, hf⟩ := h
  rcases DataW.trod_slice Try.underlying23 hf with ⟨hcs, hx⟩ | ⟨a, len, cap, elems, rest, n, _, hcs, _, hb, hl, hm, hlen, hel, hsp, hns⟩
  · simp [Value.cells] at hcs
    obtain ⟨rfl, rfl, rfl⟩ := hcs
    exact ⟨[], RowsAt.nil W⟩
  · simp [Value.cells] at hcs
    obtain ⟨rfl, rfl, rfl⟩ := hcs
    obtain ⟨b, off, spot⟩ := a
    have each : ∀ i, i < n0 → ∃ u xs, W.cell? ((⟨b, off, spot⟩ : Addr).add i) = some u ∧ IntsAt W u xs := fun i hi => by
      have e := hel i hi
      rw [List.getElem?_eq_getElem (by omega), Try.cellsInts, Nat.mul_one, Option.bind_eq_some_iff] at e
      obtain ⟨cs', hcs', hy⟩ := e
      obtain ⟨u, xs, rfl, hi⟩ := ints_of_cells hy
      exact ⟨u, xs, cell_of_cells?_one hcs', hi⟩
    have build : ∀ m, m ≤ n0 → ∃ (vs : List Value) (xss : List (List Int)), vs.length = m ∧ xss.length = m ∧ (∀ k u, vs[k]? = some u → W.cell? ((⟨b, off, spot⟩ : Addr).add k) = some u) ∧
        ∀ (k : Nat) (xs : List Int), xss[k]? = some xs → ∃ u, vs[k]? = some u ∧ IntsAt W u xs := by
      intro m
      induction m with
      | zero => exact fun _ => ⟨[], [], rfl, rfl, fun k u h => by simp at h, fun k xs h => by simp at h⟩
      | succ m ih =>
        intro hm
        obtain ⟨vs, xss, l1, l2, c1, c2⟩ := ih (by omega)
        obtain ⟨u, xs, e1, e2⟩ := each m (by omega)
        refine ⟨vs ++ [u], xss ++ [xs], by simp [l1], by simp [l2], fun k z hk => ?_, fun k zs hk => ?_⟩
        · by_cases hkm : k < m
          · rw [List.getElem?_append_left (by omega)] at hk; exact c1 k z hk
          · have := (List.getElem?_eq_some_iff.1 hk).1
            rw [List.length_append, List.length_singleton] at this
            obtain rfl : k = m := by omega
            rw [List.getElem?_append_right (by omega), l1, Nat.sub_self] at hk
            simp at hk; subst hk; exact e1
        · by_cases hkm : k < m
          · rw [List.getElem?_append_left (by omega)] at hk
            obtain ⟨u', h1, h2⟩ := c2 k zs hk
            exact ⟨u', by rw [List.getElem?_append_left (by omega)]; exact h1, h2⟩
          · have := (List.getElem?_eq_some_iff.1 hk).1
            rw [List.length_append, List.length_singleton] at this
            obtain rfl : k = m := by omega
            rw [List.getElem?_append_right (by omega), l2, Nat.sub_self] at hk
            simp at hk; subst hk
            exact ⟨u, by rw [List.getElem?_append_right (by omega), l1, Nat.sub_self]; rfl, e2⟩
    obtain ⟨vs, xss, l1, l2, c1, c2⟩ := build n0 (Nat.le_refl _)
    refine ⟨xss, vs, ⟨some ⟨b, off, spot⟩, c0, by rw [l1], by omega, hm, (fun h => by cases h), fun k x hk => ?_⟩, by omega, c2⟩
    have hc := c1 k x hk
    have hk0 : 0 < n0 := by have := (List.getElem?_eq_some_iff.1 hk).1; omega
    obtain rfl := spot_none (c1 0 _ (List.getElem?_eq_getElem (by omega)))
    exact ⟨b, off, rfl, cell_add hc⟩
theorem Try.cellsByte : Try.prog.cellsOf 5 = 1 := by kernel_rfl
/-- A slice of bytes that came in. -/
theorem bytes_of_trod {H : Type} {enc : TypeId × Value → H} {W : World} {base : Nat} {spare : Nat → Bool} {held : Bool} {v : Value} {d : DataW H} {p : List MemPlace}
    (h : DataW.Trod enc Try.prog W base spare held 22 v d p) (hv : ∃ a n c, v = .slice a n c) : ∃ bs, BytesAt W v bs := by
  obtain ⟨a0, n0, c0, rfl⟩ := hv
  obtain ⟨fuel, hf⟩ := h
  rcases open_ints Try.underlying22 Try.underlying5 Try.cellsByte hf with ⟨hcs, hx⟩ | ⟨a, len, cap, zs, hcs, _, hl, hm, hz, hx, hcell, hwz⟩
  · simp [Value.cells] at hcs
    obtain ⟨rfl, rfl, rfl⟩ := hcs
    exact ⟨[], none, 0, rfl, Nat.le_refl _, by unfold maxLen; omega, fun _ => rfl, fun k x hk => by simp [bytes] at hk⟩
  · simp [Value.cells] at hcs
    obtain ⟨rfl, rfl, rfl⟩ := hcs
    have hlz : n0 ≤ zs.length := by rw [hz]; split <;> omega
    have bl : ∀ l : List Int, (bytes l).length = l.length := fun l => by simp [bytes]
    refine ⟨zs.take n0, some a, c0, ?_, ?_, hm, (fun h => by cases h), fun k x hk => ?_⟩
    · rw [bl, List.length_take, Nat.min_eq_left hlz]
    · rw [bl, List.length_take]; omega
    · obtain ⟨b, off, spot⟩ := a
      have hk' : k < n0 := by have := (List.getElem?_eq_some_iff.1 hk).1; rw [bl, List.length_take] at this; omega
      obtain rfl := spot_none (hcell 0 (by omega))
      have hc := cell_add (hcell k (by omega))
      refine ⟨b, off, rfl, ?_⟩
      rw [hc]
      rw [bytes, List.getElem?_map, List.getElem?_take, if_pos hk', List.getElem?_eq_getElem (by omega)] at hk
      rw [← hk]
      simp [List.getD, List.getElem?_eq_getElem (show k < zs.length by omega)]
end Go.Proofs.Ytdibmjijpdliaaa
/- 'slices.SortFunc' of lists of integers: the library's contract laid at this program. -/
set_option linter.unusedVariables false
namespace Go.Proofs.Ytdibmjijpdliaaa
open Go.Shelf

def Try.sortRows_ren : Go.Shelf.Ren := ⟨fun | 6 => 99 | 15 => 96 | 14 => 124 | 28 => 122 | 29 => 123 | 20 => 132 | 21 => 133 | 22 => 134 | 23 => 135 | 24 => 136 | 25 => 137 | 26 => 138 | 27 => 139 | 46 => 141 | 47 => 128 | 48 => 129 | 49 => 142 | 50 => 143 | 57 => 144 | n => n, fun | 22 => 23 | 24 => 25 | 25 => 45 | 3 => 3 | 39 => 86 | 0 => 0 | 53 => 103 | 55 => 105 | 4 => 4 | 46 => 97 | 45 => 96 | 50 => 82 | 5 => 5 | 9 => 9 | 66 => 107 | 70 => 111 | 76 => 118 | 77 => 119 | n => n, fun | n => n⟩
theorem Try.sortRows : SlLaysF.n6 Try.prog Try.sortRows_ren := {
  mixed := by kernel_rfl
  f6 := ⟨Try.f99.name, by decide, Try.func99.trans (congrArg some (by kernel_rfl))⟩
  f14 := ⟨Try.f124.name, by decide, Try.func124.trans (congrArg some (by kernel_rfl))⟩
  f15 := Try.func96.trans (congrArg some (by kernel_rfl))
  f20 := ⟨Try.f132.name, by decide, Try.func132.trans (congrArg some (by kernel_rfl))⟩
  f21 := ⟨Try.f133.name, by decide, Try.func133.trans (congrArg some (by kernel_rfl))⟩
  f22 := ⟨Try.f134.name, by decide, Try.func134.trans (congrArg some (by kernel_rfl))⟩
  f23 := ⟨Try.f135.name, by decide, Try.func135.trans (congrArg some (by kernel_rfl))⟩
  f24 := ⟨Try.f136.name, by decide, Try.func136.trans (congrArg some (by kernel_rfl))⟩
  f25 := ⟨Try.f137.name, by decide, Try.func137.trans (congrArg some (by kernel_rfl))⟩
  f26 := ⟨Try.f138.name, by decide, Try.func138.trans (congrArg some (by kernel_rfl))⟩
  f27 := ⟨Try.f139.name, by decide, Try.func139.trans (congrArg some (by kernel_rfl))⟩
  f28 := Try.func122.trans (congrArg some (by kernel_rfl))
  f29 := Try.func123.trans (congrArg some (by kernel_rfl))
  f46 := ⟨Try.f141.name, by decide, Try.func141.trans (congrArg some (by kernel_rfl))⟩
  f47 := Try.func128.trans (congrArg some (by kernel_rfl))
  f48 := Try.func129.trans (congrArg some (by kernel_rfl))
  f49 := ⟨Try.f142.name, by decide, Try.func142.trans (congrArg some (by kernel_rfl))⟩
  f50 := ⟨Try.f143.name, by decide, Try.func143.trans (congrArg some (by kernel_rfl))⟩
  f57 := ⟨Try.f144.name, by decide, Try.func144.trans (congrArg some (by kernel_rfl))⟩
  t0 := Try.underlying0
  a0 := Try.isAgg0
  z0 := Try.sizeOf0
  v0 := Try.zeroValue0
  t3 := Try.underlying3
  a3 := Try.isAgg3
  z3 := Try.sizeOf3
  v3 := Try.zeroValue3
  t4 := Try.underlying4
  a4 := Try.isAgg4
  z4 := Try.sizeOf4
  v4 := Try.zeroValue4
  t5 := Try.underlying5
  a5 := Try.isAgg5
  z5 := Try.sizeOf5
  v5 := Try.zeroValue5
  t9 := Try.underlying9
  a9 := Try.isAgg9
  z9 := Try.sizeOf9
  v9 := Try.zeroValue9
  t22 := Try.underlying23
  a22 := Try.isAgg23
  z22 := Try.sizeOf23
  v22 := Try.zeroValue23
  a24 := Try.isAgg25
  z24 := Try.sizeOf25
  t25 := Try.underlying45
  a25 := Try.isAgg45
  z25 := Try.sizeOf45
  v25 := Try.zeroValue45
  t39 := Try.underlying86
  a39 := Try.isAgg86
  z39 := Try.sizeOf86
  v39 := Try.zeroValue86
  t45 := Try.underlying96
  a45 := Try.isAgg96
  z45 := Try.sizeOf96
  v45 := Try.zeroValue96
  t46 := Try.underlying97
  a46 := Try.isAgg97
  z46 := Try.sizeOf97
  v46 := Try.zeroValue97
  t50 := Try.underlying82
  a50 := Try.isAgg82
  z50 := Try.sizeOf82
  v50 := Try.zeroValue82
  t53 := Try.underlying103
  a53 := Try.isAgg103
  z53 := Try.sizeOf103
  v53 := Try.zeroValue103
  t55 := Try.underlying105
  a55 := Try.isAgg105
  z55 := Try.sizeOf105
  v55 := Try.zeroValue105
  t66 := Try.underlying107
  a66 := Try.isAgg107
  z66 := Try.sizeOf107
  v66 := Try.zeroValue107
  t70 := Try.underlying111
  a70 := Try.isAgg111
  z70 := Try.sizeOf111
  v70 := Try.zeroValue111
  t76 := Try.underlying118
  a76 := Try.isAgg118
  z76 := Try.sizeOf118
  v76 := Try.zeroValue118
  t77 := Try.underlying119
  a77 := Try.isAgg119
  z77 := Try.sizeOf119
  v77 := Try.zeroValue119 }
end Go.Proofs.Ytdibmjijpdliaaa
/- slices.Sort of integers: the library's contract laid at this program. -/
set_option linter.unusedVariables false
namespace Go.Proofs.Ytdibmjijpdliaaa
open Go.Shelf

def Try.sortI_ren : Go.Shelf.Ren := ⟨fun | 189 => 64 | 125 => 96 | 257 => 95 | 128 => 122 | 129 => 123 | 294 => 113 | 295 => 114 | 296 => 115 | 297 => 116 | 298 => 117 | 299 => 118 | 216 => 119 | 300 => 120 | 301 => 121 | 328 => 127 | 329 => 128 | 330 => 129 | 331 => 130 | 332 => 131 | 215 => 111 | 343 => 140 | n => n, fun | 28 => 25 | 3 => 3 | 46 => 86 | 0 => 0 | 51 => 103 | 53 => 105 | 4 => 4 | 183 => 97 | 182 => 96 | 131 => 82 | 5 => 5 | 9 => 9 | 218 => 107 | 222 => 111 | 228 => 118 | 229 => 119 | n => n, fun | n => n⟩
theorem Try.sortI : Lays.n189 Try.prog Try.sortI_ren := {
  mixed := by kernel_rfl
  f125 := Try.func96.trans (congrArg some (by kernel_rfl))
  f128 := Try.func122.trans (congrArg some (by kernel_rfl))
  f129 := Try.func123.trans (congrArg some (by kernel_rfl))
  f189 := Try.func64.trans (congrArg some (by kernel_rfl))
  f215 := Try.func111.trans (congrArg some (by kernel_rfl))
  f216 := Try.func119.trans (congrArg some (by kernel_rfl))
  f257 := Try.func95.trans (congrArg some (by kernel_rfl))
  f294 := Try.func113.trans (congrArg some (by kernel_rfl))
  f295 := Try.func114.trans (congrArg some (by kernel_rfl))
  f296 := Try.func115.trans (congrArg some (by kernel_rfl))
  f297 := Try.func116.trans (congrArg some (by kernel_rfl))
  f298 := Try.func117.trans (congrArg some (by kernel_rfl))
  f299 := Try.func118.trans (congrArg some (by kernel_rfl))
  f300 := Try.func120.trans (congrArg some (by kernel_rfl))
  f301 := Try.func121.trans (congrArg some (by kernel_rfl))
  f328 := Try.func127.trans (congrArg some (by kernel_rfl))
  f329 := Try.func128.trans (congrArg some (by kernel_rfl))
  f330 := Try.func129.trans (congrArg some (by kernel_rfl))
  f331 := Try.func130.trans (congrArg some (by kernel_rfl))
  f332 := Try.func131.trans (congrArg some (by kernel_rfl))
  f343 := Try.func140.trans (congrArg some (by kernel_rfl))
  t0 := Try.underlying0
  a0 := Try.isAgg0
  z0 := Try.sizeOf0
  v0 := Try.zeroValue0
  t3 := Try.underlying3
  a3 := Try.isAgg3
  z3 := Try.sizeOf3
  v3 := Try.zeroValue3
  t4 := Try.underlying4
  a4 := Try.isAgg4
  z4 := Try.sizeOf4
  v4 := Try.zeroValue4
  t5 := Try.underlying5
  a5 := Try.isAgg5
  z5 := Try.sizeOf5
  v5 := Try.zeroValue5
  t9 := Try.underlying9
  a9 := Try.isAgg9
  z9 := Try.sizeOf9
  v9 := Try.zeroValue9
  t28 := Try.underlying25
  a28 := Try.isAgg25
  z28 := Try.sizeOf25
  v28 := Try.zeroValue25
  t46 := Try.underlying86
  a46 := Try.isAgg86
  z46 := Try.sizeOf86
  v46 := Try.zeroValue86
  t51 := Try.underlying103
  a51 := Try.isAgg103
  z51 := Try.sizeOf103
  v51 := Try.zeroValue103
  t53 := Try.underlying105
  a53 := Try.isAgg105
  z53 := Try.sizeOf105
  v53 := Try.zeroValue105
  t131 := Try.underlying82
  a131 := Try.isAgg82
  z131 := Try.sizeOf82
  v131 := Try.zeroValue82
  t182 := Try.underlying96
  a182 := Try.isAgg96
  z182 := Try.sizeOf96
  v182 := Try.zeroValue96
  t183 := Try.underlying97
  a183 := Try.isAgg97
  z183 := Try.sizeOf97
  v183 := Try.zeroValue97
  t218 := Try.underlying107
  a218 := Try.isAgg107
  z218 := Try.sizeOf107
  v218 := Try.zeroValue107
  t222 := Try.underlying111
  a222 := Try.isAgg111
  z222 := Try.sizeOf111
  v222 := Try.zeroValue111
  t228 := Try.underlying118
  a228 := Try.isAgg118
  z228 := Try.sizeOf118
  v228 := Try.zeroValue118
  t229 := Try.underlying119
  a229 := Try.isAgg119
  z229 := Try.sizeOf119
  v229 := Try.zeroValue119 }
end Go.Proofs.Ytdibmjijpdliaaa
/- 'slices.IndexFunc' and 'slices.DeleteFunc' of lists of integers, with a closure that makes memory of its own and changes none. -/
set_option linter.unusedVariables false
namespace Go.Proofs.Ytdibmjijpdliaaa
open Go.RowKit

/-- What a closure says of each list of xss, in whatever world that has the same memory below B. -/
def Says (f : Nat) (lb : Array Value) (B : Nat) (w0 : World) (xss : List (List Int)) (P : List Int → Bool) : Prop :=
  ∀ (wr : World) (u : Value) (xs : List Int) (Q : Ending → World → Prop), Below B w0 wr → xs ∈ xss → IntsAt wr u xs →
    (∀ w', Below wr.heap.size wr w' → Q (.returned (.bool (P xs))) w') → Calls Try.prog f (#[u] ++ lb) wr Q
theorem own_setCells {B : Nat} {T : TypeId} {g n cap : Nat} : ∀ (vs : List Value) (o : Nat) {w : World} {cur : List Value}, Own w B T (.slice (some ⟨g, 0, none⟩) n cap) cur →
    ∃ cur', Own (w.setCells g o vs) B T (.slice (some ⟨g, 0, none⟩) n cap) cur' ∧ cur'.take o = cur.take o ∧ w.grownBy (w.setCells g o vs) (some g)
  | [], o, w, cur, h => ⟨cur, h, rfl, ⟨rfl, rfl, rfl, Nat.le_refl _, fun _ _ _ => rfl⟩⟩
  | v :: vs, o, w, cur, h => by
    obtain ⟨cur', h1, h2, h3⟩ := own_setCells vs (o + 1) (h.set o v)
    refine ⟨cur', h1, ?_, grown_trans (grown_set w g o v) h3⟩
    have := congrArg (List.take o) h2
    rw [List.take_take, List.take_take, Nat.min_eq_left (by omega), List.take_set_of_le (Nat.le_refl _)] at this
    exact this
theorem Own.upto {w : World} {B : Nat} {T : TypeId} {g n cap k : Nat} {xs : List Value} (h : Own w B T (.slice (some ⟨g, 0, none⟩) n cap) xs) (hk : k ≤ n) : Own w B T (.slice (some ⟨g, 0, none⟩) k cap) (xs.take k) := by
  obtain rfl := h.len
  unfold Own at h ⊢
  rcases h.2 with ⟨he, _⟩ | ⟨g', cap', cur, he, hb, hgg, h1, h2, h3, h4⟩
  · cases he
  · simp only [Value.slice.injEq] at he
    obtain ⟨e1, _, rfl⟩ := he
    obtain rfl : g = g' := by simpa using e1
    rw [Nat.mul_one] at h3 h4
    refine ⟨by simp, .inr ⟨g, cap, cur, ?_, hb, hgg, ?_, h2, by omega, ?_⟩⟩
    · rw [List.length_take, Nat.min_eq_left hk]
    · rw [List.length_take]; omega
    · rw [List.length_take, Nat.min_eq_left hk, Nat.mul_one, ← h4, List.take_take, Nat.min_eq_left hk]
/-- What DeleteFunc has done at place j: the rows at the places 'is' stand at the head, those from j on where they stood. -/
structure DelInv (P : List Int → Bool) (xss : List (List Int)) (us : List Value) (j : Nat) (is : List Nat) (cur : List Value) : Prop where
  asc : is.Pairwise (· < ·)
  lt : ∀ i ∈ is, i < j
  sum : (is.map fun i => xss.getD i []) = (xss.take j).filter fun x => !P x
  len : cur.length = us.length
  low : ∀ t i : Nat, is[t]? = some i → cur[t]? = us[i]?
  high : ∀ t : Nat, j ≤ t → cur[t]? = us[t]?
  room : is.length < j
theorem DelInv.start {P : List Int → Bool} {xss : List (List Int)} {us : List Value} {k : Nat} {x : List Int} (hx : xss[k]? = some x) (hp : P x = true) (hb : ∀ (j : Nat) ys, j < k → xss[j]? = some ys → P ys = false) : DelInv P xss us (k + 1) (List.range k) us := by
  have hk : k < xss.length := (List.getElem?_eq_some_iff.1 hx).1
  refine ⟨List.pairwise_lt_range, fun i hi => by have := List.mem_range.1 hi; omega, ?_, rfl, ?_, fun _ _ => rfl, by simp⟩
  · rw [List.take_add_one, hx, List.filter_append]
    have h1 : (xss.take k).filter (fun x => !P x) = xss.take k := List.filter_eq_self.2 fun y hy => by
      obtain ⟨j, hj⟩ := List.getElem?_of_mem hy
      rw [List.getElem?_take] at hj
      split at hj
      · rename_i h
        rw [hb j y h hj]; rfl
      · cases hj
    rw [h1]
    simp [hp]
    apply List.ext_getElem?
    intro i
    by_cases h : i < k
    · rw [List.getElem?_map, List.getElem?_range h, List.getElem?_take, if_pos h]
      simp [List.getElem?_eq_getElem (show i < xss.length by omega)]
    · rw [List.getElem?_eq_none (by simp; omega), List.getElem?_eq_none (by simp; omega)]
  · intro t i ht
    have hl := (List.getElem?_eq_some_iff.1 ht).1
    rw [List.length_range] at hl
    rw [List.getElem?_range hl] at ht
    cases ht
    rfl
theorem DelInv.keep {P : List Int → Bool} {xss : List (List Int)} {us cur : List Value} {is : List Nat} {j : Nat} {x : List Int} {u : Value} (h : DelInv P xss us j is cur) (hx : xss[j]? = some x) (hu : us[j]? = some u) (hp : P x = false) : DelInv P xss us (j + 1) (is ++ [j]) (cur.set is.length u) := by
  have hl := (List.getElem?_eq_some_iff.1 hu).1
  have hr := h.room
  have hcl := h.len
  refine ⟨?_, ?_, ?_, by rw [List.length_set]; exact h.len, ?_, ?_, by rw [List.length_append, List.length_singleton]; omega⟩
  · rw [List.pairwise_append]
    refine ⟨h.asc, List.pairwise_singleton _ _, fun a ha b hb => ?_⟩
    rw [List.mem_singleton] at hb
    subst hb
    exact h.lt a ha
  · intro i hi
    rcases List.mem_append.1 hi with hi | hi
    · have := h.lt i hi; omega
    · rw [List.mem_singleton] at hi; omega
  · have := pick_step (f := fun x => !P x) h.sum hx
    rw [if_pos (by rw [hp]; rfl)] at this
    exact this
  · intro t i ht
    by_cases e : t < is.length
    · rw [List.getElem?_append_left e] at ht
      rw [List.getElem?_set_ne (by omega)]
      exact h.low t i ht
    · have h2 := (List.getElem?_eq_some_iff.1 ht).1
      rw [List.length_append, List.length_singleton] at h2
      obtain rfl : t = is.length := by omega
      rw [List.getElem?_append_right (Nat.le_refl _), Nat.sub_self] at ht
      cases ht
      rw [List.getElem?_set_self (by omega), hu]
  · intro t ht
    rw [List.getElem?_set_ne (by omega)]
    exact h.high t (by omega)
theorem DelInv.skip {P : List Int → Bool} {xss : List (List Int)} {us cur : List Value} {is : List Nat} {j : Nat} {x : List Int} (h : DelInv P xss us j is cur) (hx : xss[j]? = some x) (hp : P x = true) : DelInv P xss us (j + 1) is cur := by
  have hr := h.room
  refine ⟨h.asc, fun i hi => by have := h.lt i hi; omega, ?_, h.len, h.low, fun t ht => h.high t (by omega), by omega⟩
  have := pick_step (f := fun x => !P x) h.sum hx
  rw [if_neg (by rw [hp]; decide)] at this
  exact this
theorem DelInv.whole {P : List Int → Bool} {xss : List (List Int)} {us cur : List Value} {is : List Nat} {w : World} {B E : Nat} (h : DelInv P xss us xss.length is cur) (hr : Rows w B E us xss) : Rows w B E (cur.take is.length) (xss.filter fun x => !P x) := by
  have hp := hr.pick h.asc h.lt
  rw [h.sum, List.take_of_length_le (Nat.le_refl _)] at hp
  have e : (is.map fun i => us.getD i nilV) = cur.take is.length := by
    apply List.ext_getElem?
    intro t
    by_cases ht : t < is.length
    · have h1 := List.getElem?_eq_getElem ht
      have h2 := h.lt _ (List.getElem_mem ht)
      have hl := hr.1
      rw [List.getElem?_map, List.getElem?_take, if_pos ht, h.low t _ h1, h1]
      simp [List.getD, List.getElem?_eq_getElem (show is[t] < us.length by omega)]
    · rw [List.getElem?_eq_none (by simp; omega), List.getElem?_eq_none (by simp; omega)]
  rw [e] at hp
  exact hp
set_option maxHeartbeats 1000000 in
theorem findIf_c {f : Nat} {lb : Array Value} {P : List Int → Bool} (eg : ∀ args w, (callFunc f args).run Try.prog w = .ok (.enter f args) w) {va : Value} {xss : List (List Int)} {w : World} {Q : Ending → World → Prop} {B : Nat} (ha : RowsAt w va xss) (hB : B ≤ w.heap.size) (hs : Says f lb B w xss P)
    (h0 : ∀ w', Below w.heap.size w w' → (∀ xs ∈ xss, P xs = false) → Q (.returned (.int .i64 (-1))) w')
    (h1 : ∀ w' (k : Nat) xs, Below w.heap.size w w' → xss[k]? = some xs → P xs = true → (∀ (j : Nat) ys, j < k → xss[j]? = some ys → P ys = false) → Q (.returned (.int .i64 k)) w') :
    Calls Try.prog 102 #[va, .func (.func f) #[] lb] w Q := by
  have H0 := Lib.hid h0; clear h0
  have H1 := Lib.hid h1; clear h1
  have HS := Lib.hid hs; clear hs
  obtain ⟨aa, ca, rfl, la, lca, cca⟩ := ha.form
  go_enter Try.func102, Try.ntmps102
  go_wp2_with fail
  go_loopg [8] xss.length (fun g i wr => Below w.heap.size w wr ∧ ∃ j : Nat, i = .int .i64 j ∧ Hid (∀ (t : Nat) ys, t < j → xss[t]? = some ys → P ys = false) ∧ j + g ≤ xss.length ∧ xss.length ≤ j + g)
  case atStart => exact ⟨Below.refl _ _, 0, rfl, Lib.hid (fun t ys h => by omega), by omega, by omega⟩
  case round =>
    obtain ⟨hb, j, rfl, hg, hk1, hk2⟩ := hrel
    by_cases hj : j < xss.length
    · obtain ⟨b, off, u, xs, rfl, hx, hcw, hi⟩ := ha.cell hj
      have hc := below_cells hb _ _ hcw
      have i1 : (j : Int) < xss.length := by omega
      have hbB : Below B w wr := hb.mono hB
      have hi' := Lib.hid (hi.below hb)
      have hm := Lib.hid (List.mem_of_getElem? hx.out)
      clear hcw hi
      cases hp0 : P xs with
      | true =>
        have hp := Lib.hid hp0
        clear hp0
        go_wp2_with (go_at_fn f; refine HS.out _ _ _ _ hbB hm.out hi'.out ?_; intro w2 b2; rw [hp.out])
        exact H1.out _ _ _ (hb.trans (b2.mono hb.size)) hx.out hp.out hg.out
      | false =>
        have hp := Lib.hid hp0
        clear hp0
        have hg2 : Hid (∀ (t : Nat) ys, t < j + 1 → xss[t]? = some ys → P ys = false) := Lib.hid (fun t ys ht hy => by
          by_cases e : t < j
          · exact hg.out t ys e hy
          · obtain rfl : t = j := by omega
            rw [hx.out] at hy
            cases hy
            exact hp.out)
        go_wp2_with (go_at_fn f; refine HS.out _ _ _ _ hbB hm.out hi'.out ?_; intro w2 b2; rw [hp.out])
        go_roundg (gk - 1)
        case measure => omega
        case rel => exact ⟨hb.trans (b2.mono hb.size), j + 1, by go_num, hg2, by omega, by omega⟩
    · go_wp2_with fail
      exact H0.out _ hb (fun xs hxs => by
        obtain ⟨t, ht⟩ := List.getElem?_of_mem hxs
        have := (List.getElem?_eq_some_iff.1 ht).1
        exact hg.out t xs (by omega) ht)
set_option maxHeartbeats 2000000 in
theorem delete_c {f : Nat} {lb : Array Value} {P : List Int → Bool} (eg : ∀ args w, (callFunc f args).run Try.prog w = .ok (.enter f args) w) {vg : Value} {xss : List (List Int)} {w : World} {Q : Ending → World → Prop} {B E : Nat} (ho : OwnRows w B E vg xss) (hB : B ≤ w.heap.size) (hs : Says f lb B w xss P)
    (hQ : ∀ v w', OwnRows w' B w'.heap.size v (xss.filter fun x => !P x) → Below B w w' → Q (.returned v) w') :
    Calls Try.prog 79 #[vg, .func (.func f) #[] lb] w Q := by
  have H := Lib.hid hQ; clear hQ
  have HS := Lib.hid hs; clear hs
  have ha := Lib.hid ho.at
  obtain ⟨us, o1, o2, o3⟩ := ho.parts
  have hul := o3.1
  have ho' := Lib.hid ho
  obtain ⟨aa, ca, rfl, lus, lca, cca⟩ := ho.form
  clear ho
  go_enter Try.func79, Try.ntmps79
  go_wp2_with fail
  refine findIf_c eg ha.out hB HS.out ?_ ?_
  · intro w1 b1 hall
    have e : (xss.filter fun x => !P x) = xss := List.filter_eq_self.2 fun x hx => by rw [hall x hx]; rfl
    have h2 := H.out _ w1 (by rw [e]; exact (ho'.out.below b1).tight) (b1.mono hB)
    have h3 := Lib.hid h2
    clear h2 hall e
    go_wp2_with fail
    exact h3.out
  intro w1 k x b1 hx hp hb
  have hk : k < xss.length := (List.getElem?_eq_some_iff.1 hx).1
  have I0 := Lib.hid (DelInv.start (us := us) hx hp hb)
  have o1' := Own.below o1 b1
  have o3' := Lib.hid ((o3.below b1).tight)
  obtain ⟨g, rfl, hgB, _⟩ := Own.head o1' (by omega)
  have hb1 : Below B w w1 := b1.mono hB
  have hne : ¬ (k : Int) = -1 := by omega
  clear hx hp hb o1 o2 o3
  go_wp2_with fail
  go_loopg [5, 6, 7] xss.length (fun gg s5 s6 s7 wr => ∃ (j : Nat) (is : List Nat) (cur : List Value), s5 = .int .i64 is.length ∧ s6 = .int .i64 j ∧ Hid (DelInv P xss us j is cur) ∧ Own wr B 25 (.slice (some ⟨g, 0, none⟩) xss.length ca) cur ∧ Hid (Rows wr B wr.heap.size us xss) ∧ Below B w wr ∧ j ≤ xss.length ∧ xss.length ≤ j + gg)
  case atStart => exact ⟨k + 1, List.range k, us, by simp, by go_num, I0, o1', o3', hb1, by omega, by omega⟩
  case round =>
    obtain ⟨j, is, cur, rfl, rfl, I, o, r, hbw, hj1, hj2⟩ := hrel
    have hroom := I.out.room
    by_cases hj : j < xss.length
    · obtain ⟨u, xs, hu, hx, hou, _⟩ := r.out.get hj
      obtain ⟨au, cu, rfl, _, _, _⟩ := Own.form hou
      have hcell := o.cell (k := j) (by rw [I.out.high j (Nat.le_refl _)]; exact hu.out)
      have hfz := fun t => o.frozen t
      obtain ⟨old, hold⟩ : ∃ old, cur[is.length]? = some old := ⟨_, List.getElem?_eq_getElem (by rw [I.out.len]; omega)⟩
      have hi' := Lib.hid hou.at
      have hm := Lib.hid (List.mem_of_getElem? hx.out)
      have hjI : (j : Int) < xss.length := by omega
      have hiI : (is.length : Int) < xss.length := by omega
      cases hp0 : P xs with
      | true =>
        have hp := Lib.hid hp0
        have I2 := Lib.hid (I.out.skip hx.out hp0)
        clear hp0
        go_wp2_with (go_at_fn f; refine HS.out _ _ _ _ hbw hm.out hi'.out ?_; intro w2 b2; rw [hp.out])
        go_roundg (gk - 1)
        case measure => omega
        case rel => exact ⟨j + 1, is, cur, rfl, by go_num, I2, Own.below o b2, Lib.hid ((r.out.below b2).tight), hbw.trans (b2.mono (by have := hbw.size; omega)), by omega, by omega⟩
      | false =>
        have hp := Lib.hid hp0
        have I2 := Lib.hid (I.out.keep hx.out hu.out hp0)
        clear hp0
        go_wp2_with (go_at_fn f; refine HS.out _ _ _ _ hbw hm.out hi'.out ?_; intro w2 b2; rw [hp.out]; have hcold := (Own.below o b2).cell hold; have hfz2 := (Own.below o b2).frozen is.length)
        have o2 := (Own.below o b2).set is.length (.slice au (ints xs).length cu)
        have hg2 := grown_set w2 g is.length (.slice au (ints xs).length cu)
        have r2 := ((r.out.below b2).tight).outer (Own.below o b2) hg2
        have hs2 := hg2.size
        have hb2 : Below B w w2 := hbw.trans (b2.mono (by have := hbw.size; omega))
        go_roundg (gk - 1)
        case measure => omega
        case rel => exact ⟨j + 1, is ++ [j], _, by simp, by go_num, I2, o2, Lib.hid (r2.mono (Nat.le_refl _) hs2), hb2.grown hg2 (by have := hb2.size; omega) (fun b hb => by cases hb; exact hgB), by omega, by omega⟩
    · obtain rfl : j = xss.length := by omega
      have hfz := fun t => o.frozen t
      have hcl0 : ∀ t, t < xss.length - is.length → (wr.cell? ⟨g, is.length + t, none⟩).isSome = true := fun t ht => by
        rw [o.cell (k := is.length + t) (List.getElem?_eq_getElem (by rw [I.out.len]; omega))]; rfl
      have hcl := fun ty => Lib.run_clear_slice (P := Try.prog) wr 23 25 ty nilV (by kernel_rfl) (fun w => by kernel_rfl) rfl rfl g is.length (xss.length - is.length) (ca - is.length) (by omega) hcl0 (fun t ht => hfz _)
      have hlt : (is.length : Int) ≤ xss.length := by omega
      have hltz : ¬ (xss.length : Int) < xss.length := by omega
      obtain ⟨cur', oc, tk, gg⟩ := own_setCells (List.replicate (xss.length - is.length) nilV) is.length o
      have ou := Own.upto (k := is.length) oc (by omega)
      rw [tk] at ou
      have W := (I.out.whole (r.out.outer o gg)).tight
      have hsz := hbw.size
      have h2 := H.out _ _ (W.whole ou (Own.inBlk ou)) (hbw.grown gg (by omega) (fun b hb => by cases hb; exact hgB))
      have h3 := Lib.hid h2
      clear h2 W ou tk oc gg I hcl0 r
      go_wp2_with fail
      exact h3.out
end Go.Proofs.Ytdibmjijpdliaaa
/- Sorting a slice of slices of integers: out of the library's contract. -/
set_option linter.unusedVariables false
namespace Go.Proofs.Ytdibmjijpdliaaa
open Go.RowKit

theorem apart.symm {u v : Value} (h : apart u v) : apart v u := by
  unfold apart at h ⊢
  cases hv : v.ownBlock with
  | none => exact .inl rfl
  | some b =>
    refine .inr fun e => ?_
    rcases h with h | h
    · rw [h] at e; cases e
    · rw [hv] at h; exact h e.symm
/-- The rows in another order. -/
theorem Rows.perm {w : World} {B E : Nat} {us : List Value} {xss : List (List Int)} (h : Rows w B E us xss) {is : List Nat} (hp : is.Nodup) (hl : ∀ i ∈ is, i < xss.length) :
    Rows w B E (is.map fun i => us.getD i nilV) (is.map fun i => xss.getD i []) := by
  obtain ⟨h3, h4, h5⟩ := h
  refine ⟨by simp, fun k xs hk => ?_, fun i j z z' hij hz hz' => ?_⟩
  · rw [List.getElem?_map, Option.map_eq_some_iff] at hk
    obtain ⟨i, hi, rfl⟩ := hk
    have hil := hl i (List.mem_of_getElem? hi)
    obtain ⟨u, a, b, c⟩ := h4 i _ (List.getElem?_eq_getElem hil)
    have e : xss.getD i [] = xss[i] := by simp [List.getD, List.getElem?_eq_getElem hil]
    refine ⟨u, ?_, by rw [e]; exact b, c⟩
    rw [List.getElem?_map, hi]
    simp [List.getD, a]
  · rw [List.getElem?_map, Option.map_eq_some_iff] at hz hz'
    obtain ⟨a, ha, rfl⟩ := hz
    obtain ⟨b, hb, rfl⟩ := hz'
    have hal := hl a (List.mem_of_getElem? ha)
    have hbl := hl b (List.mem_of_getElem? hb)
    have hab : a ≠ b := by
      intro e
      subst e
      rw [List.nodup_iff_pairwise_ne, List.pairwise_iff_getElem] at hp
      obtain ⟨x1, e1⟩ := List.getElem?_eq_some_iff.1 ha
      obtain ⟨x2, e2⟩ := List.getElem?_eq_some_iff.1 hb
      exact hp i j x1 x2 hij (e1.trans e2.symm)
    have ga : us[a]? = some (us.getD a nilV) := by simp [List.getD, List.getElem?_eq_getElem (show a < us.length by omega)]
    have gb : us[b]? = some (us.getD b nilV) := by simp [List.getD, List.getElem?_eq_getElem (show b < us.length by omega)]
    by_cases h : a < b
    · exact h5 a b _ _ h ga gb
    · exact (h5 b a _ _ (by omega) gb ga).symm
theorem map_range_getD {α : Type} (l : List α) (d : α) : ((List.range l.length).map fun i => l.getD i d) = l := by
  apply List.ext_getElem?
  intro i
  by_cases h : i < l.length
  · rw [List.getElem?_map, List.getElem?_range h]
    simp [List.getD, List.getElem?_eq_getElem h]
  · rw [List.getElem?_eq_none (by simp; omega), List.getElem?_eq_none (by omega)]
def Words.Sorted (l : List (List Int)) : Prop := l.Pairwise fun a b => ¬ Words.cmpL b a < 0
theorem Words.cmpL_swo (xss : List (List Int)) : Go.Sort.SWO (α := Nat) (ltOf fun i j => Words.cmpL (xss.getD i []) (xss.getD j [])) where
  irrefl x := by
    show decide (Words.cmpL (xss.getD x []) (xss.getD x []) < 0) = false
    rw [Words.cmpL_self]; rfl
  trans x y z h1 h2 := by
    unfold ltOf at *
    simp only [decide_eq_true_eq] at *
    exact Words.cmpL_trans h1 h2
  ntrans x y z h1 h2 := by
    unfold ltOf at *
    simp only [decide_eq_false_iff_not] at *
    intro h3
    by_cases e : Words.cmpL (xss.getD x []) (xss.getD y []) = 0
    · rw [Words.cmpL_eq e] at h3
      exact h2 h3
    · have h4 : Words.cmpL (xss.getD y []) (xss.getD x []) < 0 := by rw [Words.cmpL_neg]; omega
      exact h2 (Words.cmpL_trans h4 h3)
theorem sorted_unique {a b : List (List Int)} (hp : a.Perm b) (ha : Words.Sorted a) (hb : Words.Sorted b) : a = b := by
  refine List.Perm.eq_of_pairwise (le := fun a b => ¬ Words.cmpL b a < 0) ?_ ha hb hp
  intro x y _ _ h1 h2
  rw [Words.cmpL_neg] at h1
  exact Words.cmpL_eq (by omega)
theorem heap_sortWorld {α : Type} [Inhabited α] (enc : α → Value) (w : World) (blk off m : Nat) (dk : Array α) (os : Array Obj) {k : Nat} (hk : k < w.heap.size) (hne : k ≠ blk) : (sortWorld enc w blk off m dk os).heap[k]? = w.heap[k]? := by
  unfold sortWorld
  rw [Go.Sort.heap_grow_old _ _ (by simp; exact hk)]
  unfold Go.Sort.putRow Go.Sort.mapBlock
  simp [Array.getElem?_modify, Ne.symm hne]
theorem below_sortWorld {α : Type} [Inhabited α] (enc : α → Value) {w : World} {B blk : Nat} (hB : B ≤ w.heap.size) (hb : B ≤ blk) (off m : Nat) (dk : Array α) (os : Array Obj) : Below B w (sortWorld enc w blk off m dk os) :=
  ⟨rfl, rfl, rfl, by unfold sortWorld; simp, fun k hk => heap_sortWorld enc w blk off m dk os (by omega) (by omega)⟩
theorem own_sortWorld {α : Type} [Inhabited α] (enc : α → Value) {w : World} {B g n cap : Nat} {T : TypeId} {vs : List Value} (h : Own w B T (.slice (some ⟨g, 0, none⟩) n cap) vs) (m : Nat) (dk : Array α) (os : Array Obj) (hs : dk.size = n) :
    Own (sortWorld enc w g 0 m dk os) B T (.slice (some ⟨g, 0, none⟩) n cap) (dk.toList.map enc) := by
  have hn := h.len
  unfold Own at h ⊢
  rcases h.2 with ⟨he, _⟩ | ⟨g', cap', cur, he, hb, hgg, h1, h2, h3, h4⟩
  · cases he
  · simp only [Value.slice.injEq] at he
    obtain ⟨e1, _, rfl⟩ := he
    obtain rfl : g = g' := by simpa using e1
    have hlt : g < w.heap.size := (Array.getElem?_eq_some_iff.1 hgg).1
    rw [Nat.mul_one] at h3 h4
    refine ⟨by simp, .inr ⟨g, cap, Go.Sort.putCells enc 0 dk cur, by simp [hs], hb, ?_, by simp; omega, h2, by simp [Go.Sort.putCells, h3], ?_⟩⟩
    · unfold sortWorld
      rw [Go.Sort.heap_grow_old _ _ (by simp; exact hlt)]
      unfold Go.Sort.putRow Go.Sort.mapBlock
      rw [Array.getElem?_modify]
      simp [Go.Sort.ahead, hgg, Go.Sort.onCells]
    · simp only [List.length_map, Array.length_toList, Nat.mul_one]
      apply List.ext_getElem?
      intro i
      by_cases hi : i < dk.size
      · rw [List.getElem?_take, if_pos hi, Array.getElem?_toList, List.getElem?_map, Array.getElem?_toList]
        unfold Go.Sort.putCells
        rw [Array.getElem?_mapIdx, Array.getElem?_eq_getElem (show i < cur.size by omega), Option.map_some, if_pos ⟨by omega, by omega⟩, Array.getElem?_eq_getElem hi, Option.map_some, Nat.sub_zero, getElem!_pos dk i hi]
      · rw [List.getElem?_eq_none (by simp; omega), List.getElem?_eq_none (by simp; omega)]
theorem sortRows_c {v : Value} {xss : List (List Int)} {w : World} {B E : Nat} {Q : Ending → World → Prop} (ho : OwnRows w B E v xss) (hB : B ≤ w.heap.size) (hn : 0 < xss.length) (hbig : xss.length ≤ 1048576)
    (hQ : ∀ w' yss, yss.Perm xss → Words.Sorted yss → OwnRows w' B w'.heap.size v yss → Below B w w' → Q (.returned (.tuple #[])) w') :
    Calls Try.prog 99 #[v, .func (.func 53) #[] #[]] w Q := by
  obtain ⟨us, o1, o2, o3⟩ := ho.parts
  obtain ⟨aa, ca, rfl, la, lca, cca⟩ := ho.form
  obtain ⟨g, rfl, hgB, hgl⟩ := Own.head o1 (by have := o3.1; omega)
  have hus := o3.1
  have hul := o1.len
  have one : OneCell fun i : Nat => us.getD i nilV := by
    intro i
    by_cases hi : i < us.length
    · obtain ⟨u, xs, hu, _, hou, _⟩ := o3.get (k := i) (by omega)
      obtain ⟨au, cu, rfl, _, _, _⟩ := Own.form hou
      have : us.getD i nilV = .slice au (ints xs).length cu := by simp [List.getD, hu.out]
      show (us.getD i nilV).oneCell' = true
      rw [this]; rfl
    · have : us.getD i nilV = nilV := by simp [List.getD, List.getElem?_eq_none (show us.length ≤ i by omega)]
      show (us.getD i nilV).oneCell' = true
      rw [this]; rfl
  have read : ∀ (m : Nat) (os : Array Obj) (dk : Array Nat) (i : Nat), IntsAt (sortWorld (fun i : Nat => us.getD i nilV) w g 0 m dk os) (us.getD i nilV) (xss.getD i []) := by
    intro m os dk i
    by_cases hi : i < us.length
    · obtain ⟨u, xs, hu, hx, hou, _⟩ := o3.get (k := i) (by omega)
      have e1 : us.getD i nilV = u := by simp [List.getD, hu.out]
      have e2 : xss.getD i [] = xs := by simp [List.getD, hx.out]
      rw [e1, e2]
      refine OwnInts.at (Own.kept (B := B) hou fun k hk => heap_sortWorld _ _ _ _ _ _ _ (Own.lt hou hk).2 ?_)
      rcases own_types o1 hou (by decide) with e | e
      · rw [e] at hk; cases hk
      · intro h; subst h; exact e hk
    · have e1 : us.getD i nilV = nilV := by simp [List.getD, List.getElem?_eq_none (show us.length ≤ i by omega)]
      have e2 : xss.getD i [] = [] := by simp [List.getD, List.getElem?_eq_none (show xss.length ≤ i by omega)]
      rw [e1, e2]
      exact ⟨none, 0, rfl, Nat.le_refl _, by unfold maxLen; omega, fun _ => rfl, fun k x h => by simp [ints] at h⟩
  have hcmp : CmpLays1 Try.prog 53 #[] (fun i : Nat => us.getD i nilV) (fun i j => Words.cmpL (xss.getD i []) (xss.getD j [])) g 0 xss.length w := by
    intro m os dk hs x y
    exact Compare_c (read m os dk x) (read m os dk y) ⟨rfl, 0, #[], by rw [Go.Sort.grow_empty]; rfl⟩
  have hH : Go.Sort.Holds (fun i : Nat => us.getD i nilV) w g 0 (Array.range xss.length) := by
    intro j hj
    rw [Array.size_range] at hj
    rw [Nat.zero_add, getElem!_pos _ j (by simpa using hj)]
    refine ⟨?_, o1.frozen j⟩
    rw [o1.cell (k := j) (x := us.getD j nilV) (by simp [List.getD, List.getElem?_eq_getElem (show j < us.length by omega)])]
    simp
  have hc := Any.slices_SortFunc Try.sortRows (fun i : Nat => us.getD i nilV) one (fun i j => Words.cmpL (xss.getD i []) (xss.getD j [])) (Words.cmpL_swo xss) 53 #[] g 0 ca (Array.range xss.length) w
    (fun args w => enters_of Try.func53 (by kernel_rfl) rfl args w) (by rw [Array.size_range]; exact hcmp) hH hgl (by rw [Array.size_range]; omega)
  rw [Array.size_range] at hc
  refine hc.mono ?_
  rintro e w' ⟨rfl, d', m, os, hp, hs, rfl⟩
  obtain ⟨hp1, hp2, hp3⟩ := hp
  rw [Array.size_range] at hp1
  have hpl : d'.toList.Perm (List.range xss.length) := by
    have h1 : d'.extract 0 xss.length = d' := by rw [← hp1]; simp
    have h2 : (Array.range xss.length).extract 0 xss.length = Array.range xss.length := by
      conv => lhs; arg 3; rw [← Array.size_range (n := xss.length)]
      simp
    rw [h1, h2] at hp3
    simpa using hp3
  have hnd : d'.toList.Nodup := hpl.nodup_iff.2 List.nodup_range
  have hlt : ∀ i ∈ d'.toList, i < xss.length := fun i hi => List.mem_range.1 (hpl.mem_iff.1 hi)
  refine hQ _ (d'.toList.map fun i => xss.getD i []) ?_ ?_ ?_ (below_sortWorld _ hB hgB _ _ _ _)
  · have := hpl.map fun i => xss.getD i []
    rwa [map_range_getD] at this
  · unfold Words.Sorted
    rw [List.pairwise_map, List.pairwise_iff_getElem]
    intro i j h1 h2 hij
    have := hs i j (Nat.zero_le _) hij (by simp at h2; omega)
    unfold ltOf at this
    rw [decide_eq_false_iff_not] at this
    rw [getElem!_pos d' i (by simpa using h1), getElem!_pos d' j (by simpa using h2)] at this
    simpa using this
  · have ow := own_sortWorld (fun i : Nat => us.getD i nilV) o1 m d' os hp1
    have rw1 : Rows (sortWorld (fun i : Nat => us.getD i nilV) w g 0 m d' os) B E us xss := by
      refine ⟨o3.1, fun k xs hk => ?_, o3.2.2⟩
      obtain ⟨u, a, b, c⟩ := o3.2.1 k xs hk
      refine ⟨u, a, Own.kept b fun q hq => heap_sortWorld _ _ _ _ _ _ _ (Own.lt b hq).2 ?_, c⟩
      rcases own_types o1 b (by decide) with e | e
      · rw [e] at hq; cases hq
      · intro h; subst h; exact e hq
    have rw2 := (rw1.perm hnd hlt).tight
    have := rw2.whole ow (Own.inBlk ow)
    exact this
end Go.Proofs.Ytdibmjijpdliaaa
/- The values of an outer row, where rows may be shared; inserting a row. -/
set_option linter.unusedVariables false
namespace Go.Proofs.Ytdibmjijpdliaaa
open Go.RowKit

/-- The values us are slices of integers of the call's own that hold xss. -/
def Vals (w : World) (B : Nat) (us : List Value) (xss : List (List Int)) : Prop :=
  us.length = xss.length ∧ ∀ (k : Nat) (xs : List Int), xss[k]? = some xs → ∃ u, us[k]? = some u ∧ OwnInts w B u xs
theorem Vals.below {w w' : World} {B : Nat} {us : List Value} {xss : List (List Int)} (h : Vals w B us xss) (hb : Below w.heap.size w w') : Vals w' B us xss :=
  ⟨h.1, fun k xs hk => by
    obtain ⟨u, a, b⟩ := h.2 k xs hk
    exact ⟨u, a, OwnInts.below b hb⟩⟩
theorem Vals.drawn {w w' : World} {B : Nat} {us : List Value} {xss : List (List Int)} (h : Vals w B us xss) (hd : Drawn w w') : Vals w' B us xss :=
  ⟨h.1, fun k xs hk => by
    obtain ⟨u, a, b⟩ := h.2 k xs hk
    exact ⟨u, a, OwnInts.drawn b hd⟩⟩
theorem Vals.outer {w w' : World} {B : Nat} {us : List Value} {xss : List (List Int)} (h : Vals w B us xss) {B' : Nat} {v : Value} {zs : List Value} (ho : Own w B' 25 v zs) (hg : w.grownBy w' v.ownBlock) : Vals w' B us xss :=
  ⟨h.1, fun k xs hk => by
    obtain ⟨u, a, b⟩ := h.2 k xs hk
    exact ⟨u, a, Own.grown b hg (own_types ho b (by decide))⟩⟩
theorem Vals.push {w : World} {B : Nat} {us : List Value} {xss : List (List Int)} (h : Vals w B us xss) {u : Value} {xs : List Int} (hu : OwnInts w B u xs) : Vals w B (us ++ [u]) (xss ++ [xs]) := by
  refine ⟨by simp [h.1], fun k zs hk => ?_⟩
  by_cases e : k < xss.length
  · rw [List.getElem?_append_left e] at hk
    obtain ⟨z, a, b⟩ := h.2 k zs hk
    exact ⟨z, by rw [List.getElem?_append_left (by have := h.1; omega)]; exact a, b⟩
  · have hk' := (List.getElem?_eq_some_iff.1 hk).1
    rw [List.length_append, List.length_singleton] at hk'
    obtain rfl : k = xss.length := by omega
    rw [List.getElem?_append_right (Nat.le_refl _), Nat.sub_self] at hk
    simp at hk
    subst hk
    exact ⟨u, by rw [← h.1, List.getElem?_append_right (Nat.le_refl _), Nat.sub_self]; rfl, hu⟩
theorem Vals.ints {w : World} {B : Nat} {us : List Value} {xss : List (List Int)} (h : Vals w B us xss) : ∀ (k : Nat) (xs : List Int), xss[k]? = some xs → ∃ u, us[k]? = some u ∧ IntsAt w u xs := fun k xs hk => by
  obtain ⟨u, a, b⟩ := h.2 k xs hk
  exact ⟨u, a, OwnInts.at b⟩
theorem Vals.at {w : World} {B B' : Nat} {v : Value} {us : List Value} {xss : List (List Int)} (h : Vals w B us xss) (ho : Own w B' 25 v us) : RowsAt w v xss := ⟨us, Own.row ho, h.1, h.ints⟩
theorem Rows.vals {w : World} {B E : Nat} {us : List Value} {xss : List (List Int)} (h : Rows w B E us xss) : Vals w B us xss := ⟨h.1, fun k xs hk => by
  obtain ⟨u, a, b, _⟩ := h.2.1 k xs hk
  exact ⟨u, a, b⟩⟩
theorem Rows.pw {us : List Value} : (∀ (i j : Nat) (u u' : Value), i < j → us[i]? = some u → us[j]? = some u' → apart u u') ↔ us.Pairwise apart := by
  rw [List.pairwise_iff_getElem]
  constructor
  · intro h i j hi hj hij
    exact h i j _ _ hij (List.getElem?_eq_getElem hi) (List.getElem?_eq_getElem hj)
  · intro h i j u u' hij hu hu'
    obtain ⟨h1, rfl⟩ := List.getElem?_eq_some_iff.1 hu
    obtain ⟨h2, rfl⟩ := List.getElem?_eq_some_iff.1 hu'
    exact h i j h1 h2 hij
theorem ins_get {α : Type} {l : List α} {x : α} {i k : Nat} (hi : i ≤ l.length) : ((l.take i ++ [x]) ++ l.drop i)[k]? = if k < i then l[k]? else if k = i then some x else l[k - 1]? := by
  rw [List.append_assoc, List.singleton_append]
  by_cases h1 : k < i
  · rw [if_pos h1, List.getElem?_append_left (by rw [List.length_take]; omega), List.getElem?_take, if_pos h1]
  · rw [if_neg h1, List.getElem?_append_right (by rw [List.length_take]; omega), List.length_take, Nat.min_eq_left hi]
    by_cases h2 : k = i
    · rw [if_pos h2, h2, Nat.sub_self, List.getElem?_cons_zero]
    · rw [if_neg h2]
      obtain ⟨d, hd⟩ : ∃ d, k - i = d + 1 := ⟨k - i - 1, by omega⟩
      rw [hd, List.getElem?_cons_succ, List.getElem?_drop]
      congr 1
      omega
/-- A new row put among the others. -/
theorem Rows.ins {w : World} {B E : Nat} {us : List Value} {xss : List (List Int)} (h : Rows w B E us xss) {u : Value} {xs : List Int} (hu : OwnInts w B u xs) (hf : ∀ b, u.ownBlock = some b → E ≤ b) {i : Nat} (hi : i ≤ xss.length) : Rows w B w.heap.size ((us.take i ++ [u]) ++ us.drop i) ((xss.take i ++ [xs]) ++ xss.drop i) := by
  have hp := h.push hu hf
  have hul := h.1
  refine ⟨by simp [hul], fun k zs hk => ?_, ?_⟩
  · rw [ins_get hi] at hk
    by_cases h1 : k < i
    · rw [if_pos h1] at hk
      obtain ⟨z, a, b, c⟩ := h.2.1 k zs hk
      exact ⟨z, by rw [ins_get (by omega), if_pos h1]; exact a, b, Own.inBlk b⟩
    · rw [if_neg h1] at hk
      by_cases h2 : k = i
      · rw [if_pos h2] at hk
        cases hk
        exact ⟨u, by rw [ins_get (by omega), if_neg h1, if_pos h2], hu, Own.inBlk hu⟩
      · rw [if_neg h2] at hk
        obtain ⟨z, a, b, c⟩ := h.2.1 _ zs hk
        exact ⟨z, by rw [ins_get (by omega), if_neg h1, if_neg h2]; exact a, b, Own.inBlk b⟩
  · rw [Rows.pw]
    have h3 := Rows.pw.1 hp.2.2
    refine (List.Perm.pairwise_iff (fun {x y} h => apart.symm h) ?_).1 h3
    have e : us ++ [u] = (us.take i ++ us.drop i) ++ [u] := by rw [List.take_append_drop]
    rw [e, List.append_assoc, List.append_assoc]
    exact List.Perm.append_left _ List.perm_append_comm
end Go.Proofs.Ytdibmjijpdliaaa
/- The subsets of four points, as the reference lists them. -/
set_option linter.unusedVariables false
namespace Go.Proofs.Ytdibmjijpdliaaa
open Go.RowKit

def Perms.subs : Nat → Nat → List (List Int)
  | 0, _ => [[]]
  | k + 1, a => (List.range (4 - a)).flatMap fun i => (Perms.subs k (a + i + 1)).map fun r => ((a + i : Nat) : Int) :: r
def Perms.subsTo (k a j : Nat) : List (List Int) := (List.range j).flatMap fun i => (Perms.subs k (a + i + 1)).map fun r => ((a + i : Nat) : Int) :: r
theorem Perms.subsTo_step (k a j : Nat) : Perms.subsTo k a (j + 1) = Perms.subsTo k a j ++ (Perms.subs k (a + j + 1)).map fun r => ((a + j : Nat) : Int) :: r := by
  unfold Perms.subsTo
  rw [List.range_succ, List.flatMap_append]
  simp
theorem Perms.subs_small : ∀ k ∈ List.range 3, ∀ a ∈ List.range 7, (Perms.subs k a).length ≤ 16 ∧ ∀ r ∈ Perms.subs k a, r.length = k := by decide +kernel
theorem Perms.subsTo_small : ∀ k ∈ List.range 2, ∀ a ∈ List.range 6, ∀ j ∈ List.range 5, a + j ≤ 4 → (Perms.subsTo k a j).length ≤ 16 := by decide +kernel
theorem own_int_one (w : World) (x : Int) : OwnInts (w.alloc (.cells #[.int .i64 x] 3)) w.heap.size (.slice (some ⟨w.heap.size, 0, none⟩) 1 1) [x] :=
  World.ownsRow_lit (size := 1) w #[.int .i64 x] 1 (Nat.le_refl _) (by unfold maxLen; omega) rfl
end Go.Proofs.Ytdibmjijpdliaaa
/- Inserting into an ascending list. No program in sight. -/
set_option linter.unusedVariables false
namespace Go.Proofs.Ytdibmjijpdliaaa.Perms

def ins (l : List (List Int)) (x : List Int) : List (List Int) := l.takeWhile (fun y => decide (Words.cmpL y x < 0)) ++ x :: l.dropWhile (fun y => decide (Words.cmpL y x < 0))
def isort (l : List (List Int)) : List (List Int) := l.foldl ins []
theorem isort_snoc (l : List (List Int)) (x : List Int) : isort (l ++ [x]) = ins (isort l) x := by unfold isort; rw [List.foldl_append]; rfl
theorem isort_take {l : List (List Int)} {j : Nat} {x : List Int} (a : List (List Int)) (h : l[j]? = some x) : isort (a ++ l.take (j + 1)) = ins (isort (a ++ l.take j)) x := by
  rw [List.take_add_one, h, ← isort_snoc, List.append_assoc]; rfl
theorem ins_perm (l : List (List Int)) (x : List Int) : (ins l x).Perm (x :: l) := by
  unfold ins
  have h := List.perm_middle (a := x) (l₁ := l.takeWhile fun y => decide (Words.cmpL y x < 0)) (l₂ := l.dropWhile fun y => decide (Words.cmpL y x < 0))
  rw [List.takeWhile_append_dropWhile] at h
  exact h
theorem isort_perm0 : ∀ (l a : List (List Int)), (l.foldl ins a).Perm (a ++ l)
  | [], a => by simp
  | x :: l, a => by
    have h := isort_perm0 l (ins a x)
    refine h.trans ?_
    refine ((ins_perm a x).append_right l).trans ?_
    exact (List.perm_middle).symm
theorem isort_perm (l : List (List Int)) : (isort l).Perm l := by
  have := isort_perm0 l []
  rw [List.nil_append] at this
  exact this
theorem isort_len (l : List (List Int)) : (isort l).length = l.length := (isort_perm l).length_eq
theorem not_lt_trans {x y z : List Int} (h1 : ¬ Words.cmpL x y < 0) (h2 : ¬ Words.cmpL y z < 0) : ¬ Words.cmpL x z < 0 := by
  intro h3
  by_cases e : Words.cmpL x y = 0
  · rw [Words.cmpL_eq e] at h3
    exact h2 h3
  · have h4 : Words.cmpL y x < 0 := by rw [Words.cmpL_neg]; omega
    exact h2 (Words.cmpL_trans h4 h3)
theorem ins_sorted {l : List (List Int)} {x : List Int} (h : Words.Sorted l) : Words.Sorted (ins l x) := by
  unfold ins Words.Sorted at *
  have h0 : (l.takeWhile (fun y => decide (Words.cmpL y x < 0)) ++ l.dropWhile (fun y => decide (Words.cmpL y x < 0))).Pairwise fun a b => ¬ Words.cmpL b a < 0 := by rw [List.takeWhile_append_dropWhile]; exact h
  rw [List.pairwise_append] at h0
  obtain ⟨h1, h2, h3⟩ := h0
  have htw : ∀ y ∈ l.takeWhile (fun y => decide (Words.cmpL y x < 0)), Words.cmpL y x < 0 := fun y hy => of_decide_eq_true (List.all_eq_true.1 List.all_takeWhile y hy)
  have hdw : ∀ y ∈ l.dropWhile (fun y => decide (Words.cmpL y x < 0)), ¬ Words.cmpL y x < 0 := by
    cases hd : l.dropWhile (fun y => decide (Words.cmpL y x < 0)) with
    | nil => intro y hy; cases hy
    | cons z zs =>
      have hz : ¬ Words.cmpL z x < 0 := by
        have hne : l.dropWhile (fun y => decide (Words.cmpL y x < 0)) ≠ [] := by rw [hd]; simp
        have := List.head_dropWhile_not (fun y => decide (Words.cmpL y x < 0)) hne
        simp [hd] at this
        omega
      rw [hd, List.pairwise_cons] at h2
      intro y hy
      rcases List.mem_cons.1 hy with rfl | hy
      · exact hz
      · exact not_lt_trans (h2.1 y hy) hz
  rw [List.pairwise_append, List.pairwise_cons]
  refine ⟨h1, ⟨hdw, h2⟩, fun a ha b hb => ?_⟩
  rcases List.mem_cons.1 hb with rfl | hb
  · have := htw a ha
    rw [Words.cmpL_neg]; omega
  · exact h3 a ha b hb
theorem isort_sorted0 : ∀ (l a : List (List Int)), Words.Sorted a → Words.Sorted (l.foldl ins a)
  | [], a, h => h
  | x :: l, a, h => isort_sorted0 l (ins a x) (ins_sorted h)
theorem isort_sorted (l : List (List Int)) : Words.Sorted (isort l) := isort_sorted0 l [] List.Pairwise.nil
/-- Where the first element stands that is not less. -/
theorem ins_at {l : List (List Int)} {x : List Int} {i : Nat} (hi : i ≤ l.length) (h1 : ∀ (t : Nat) y, t < i → l[t]? = some y → Words.cmpL y x < 0) (h2 : ∀ y, l[i]? = some y → ¬ Words.cmpL y x < 0) : ins l x = l.take i ++ x :: l.drop i := by
  have e : l.takeWhile (fun y => decide (Words.cmpL y x < 0)) = l.take i := by
    conv => lhs; rw [← List.take_append_drop i l]
    rw [List.takeWhile_append_of_pos]
    · cases hd : l.drop i with
      | nil => simp
      | cons z zs =>
        have hz := h2 z (by have := congrArg List.head? hd; rw [List.head?_drop] at this; exact this)
        simp [hz]
    · intro y hy
      obtain ⟨t, ht⟩ := List.getElem?_of_mem hy
      rw [List.getElem?_take] at ht
      split at ht
      · rename_i h
        exact decide_eq_true (h1 t y h ht)
      · cases ht
  unfold ins
  have e2 : l.dropWhile (fun y => decide (Words.cmpL y x < 0)) = l.drop i := by
    have h := List.takeWhile_append_dropWhile (p := fun y => decide (Words.cmpL y x < 0)) (l := l)
    rw [e] at h
    have h3 : l.take i ++ l.dropWhile (fun y => decide (Words.cmpL y x < 0)) = l.take i ++ l.drop i := by rw [h, List.take_append_drop]
    exact List.append_cancel_left h3
  rw [e, e2]
end Go.Proofs.Ytdibmjijpdliaaa.Perms
/- The group that some permutations make, element by element. No program in sight. -/
set_option linter.unusedVariables false
namespace Go.Proofs.Ytdibmjijpdliaaa.Perms

/-- A list of n points out of n. -/
def inR (n : Nat) (p : List Int) : Prop := p.length = n ∧ ∀ x ∈ p, 0 ≤ x ∧ x < n
theorem inR_iota (n : Nat) : inR n (iota n) := ⟨iota_len n, fun x hx => by
  unfold iota at hx
  obtain ⟨k, hk, rfl⟩ := List.mem_map.1 hx
  have := List.mem_range.1 hk
  omega⟩
theorem inR_comp {n : Nat} {p q : List Int} (hp : inR n p) (hq : inR n q) : inR n (comp p q) := by
  refine ⟨by rw [comp_len]; exact hp.1, fun x hx => ?_⟩
  unfold comp at hx
  obtain ⟨y, hy, rfl⟩ := List.mem_map.1 hx
  have h := hp.2 y hy
  have hl : y.toNat < q.length := by rw [hq.1]; omega
  have : q.getD y.toNat 0 = q[y.toNat] := by simp [List.getD, List.getElem?_eq_getElem hl]
  rw [this]
  exact hq.2 _ (List.getElem_mem hl)
theorem permB_inR {p : List Int} (h : permB p = true) : inR p.length p := ⟨rfl, permB_range h⟩
/-- One product: it is there already; or there is no room; or it is the next one. -/
def stepG (o : Option (List (List Int))) (q : List Int) : Option (List (List Int)) := o.bind fun out => if q ∈ out then some out else if out.length = 120 then none else some (out ++ [q])
def rowTo (gens : List (List Int)) (p : List Int) (out : List (List Int)) (t : Nat) : Option (List (List Int)) := (gens.take t).foldl (fun o s => stepG o (comp p s)) (some out)
def bfs (gens : List (List Int)) : Nat → Nat → List (List Int) → Option (List (List Int))
  | 0, _, out => some out
  | f + 1, a, out => match out[a]? with
    | none => some out
    | some p => (rowTo gens p out gens.length).bind (bfs gens f (a + 1))
def gokB (n : Int) (gens : List (List Int)) : Bool := decide (1 ≤ n ∧ n ≤ 10) && gens.all fun p => permB p && decide ((p.length : Int) = n)
def gofO (n : Int) (gens : List (List Int)) : Option (List (List Int)) := if gokB n gens = true then bfs gens 121 0 [iota n.toNat] else none
def gofW (n : Int) (gens : List (List Int)) : List (List Int) := ((gofO n gens).map isort).getD []
def gofB (n : Int) (gens : List (List Int)) : Bool := (gofO n gens).isSome
theorem foldl_none (p : List Int) : ∀ l : List (List Int), l.foldl (fun o s => stepG o (comp p s)) none = none
  | [] => rfl
  | s :: l => foldl_none p l
theorem rowTo_step {gens : List (List Int)} {p s : List Int} {out : List (List Int)} {t : Nat} (hs : gens[t]? = some s) : rowTo gens p out (t + 1) = stepG (rowTo gens p out t) (comp p s) := by
  unfold rowTo
  rw [List.take_add_one, hs, List.foldl_append]
  rfl
theorem rowTo_none {gens : List (List Int)} {p : List Int} {out : List (List Int)} {t : Nat} (h : rowTo gens p out t = none) : rowTo gens p out gens.length = none := by
  unfold rowTo at h ⊢
  have e : gens.take gens.length = gens.take t ++ gens.drop t := by rw [List.take_length, List.take_append_drop]
  rw [e, List.foldl_append, h, foldl_none]
theorem bfs_row {gens out : List (List Int)} {p : List Int} {f a : Nat} (h : out[a]? = some p) : bfs gens (f + 1) a out = (rowTo gens p out gens.length).bind (bfs gens f (a + 1)) := by
  simp only [bfs]
  rw [h]
theorem bfs_end {gens out : List (List Int)} {f a : Nat} (h : out.length ≤ a) : bfs gens (f + 1) a out = some out := by
  simp only [bfs]
  rw [List.getElem?_eq_none h]
/-- What holds of the list all the way. -/
structure GofInv (n : Nat) (out : List (List Int)) : Prop where
  nd : out.Nodup
  rg : ∀ p ∈ out, inR n p
  le : out.length ≤ 120
theorem GofInv.start {n : Nat} : GofInv n [iota n] := ⟨by simp, fun p hp => by rw [List.mem_singleton] at hp; rw [hp]; exact inR_iota n, by simp⟩
theorem GofInv.add {n : Nat} {out : List (List Int)} {q : List Int} (h : GofInv n out) (hq : inR n q) (hm : q ∉ out) (hl : out.length ≠ 120) : GofInv n (out ++ [q]) := by
  refine ⟨?_, fun p hp => ?_, ?_⟩
  · rw [List.nodup_append]
    refine ⟨h.nd, by simp, fun a ha b hb e => ?_⟩
    rw [List.mem_singleton] at hb
    subst e; subst hb
    exact hm ha
  · rcases List.mem_append.1 hp with hp | hp
    · exact h.rg p hp
    · rw [List.mem_singleton] at hp; rw [hp]; exact hq
  · have := h.le
    rw [List.length_append, List.length_singleton]
    omega
theorem gok_parts {n : Int} {gens : List (List Int)} (h : gokB n gens = true) : 1 ≤ n ∧ n ≤ 10 ∧ ∀ p ∈ gens, permB p = true ∧ (p.length : Int) = n := by
  unfold gokB at h
  simp only [Bool.and_eq_true, decide_eq_true_eq, List.all_eq_true] at h
  exact ⟨h.1.1, h.1.2, h.2⟩
theorem gok_inR {n : Nat} {gens : List (List Int)} (h : gokB n gens = true) : ∀ p ∈ gens, inR n p := fun p hp => by
  obtain ⟨_, _, h3⟩ := gok_parts h
  obtain ⟨h4, h5⟩ := h3 p hp
  have e : p.length = n := by omega
  have := permB_inR h4
  rwa [e] at this
/-- Of a list without repetitions the sorted one ascends strictly. -/
theorem isort_asc {l : List (List Int)} (h : l.Nodup) : Asc (isort l) := by
  rw [Asc.pairwise]
  have h1 := isort_sorted l
  have h2 : (isort l).Nodup := (isort_perm l).nodup_iff.2 h
  rw [List.nodup_iff_pairwise_ne] at h2
  unfold Words.Sorted at h1
  refine (List.pairwise_and_iff.2 ⟨h1, h2⟩).imp ?_
  rintro a b ⟨h3, h4⟩
  have h5 := Words.cmpL_neg a b
  by_cases e : Words.cmpL a b = 0
  · exact absurd (Words.cmpL_eq e) h4
  · omega
theorem isort_mem {l : List (List Int)} {x : List Int} : x ∈ isort l ↔ x ∈ l := (isort_perm l).mem_iff
end Go.Proofs.Ytdibmjijpdliaaa.Perms
/- The image of a subset, as the reference finds it. -/
set_option linter.unusedVariables false
namespace Go.Proofs.Ytdibmjijpdliaaa
open Go.RowKit

/-- 'append(s, x)' of one integer, with what is known of the new block. -/
theorem app_int_val {w : World} {ops : Array Oper} {rest : List Oper} {o : Oper} {a : Act} {Q : Exit → Act → World → Prop} (hg : o.guard = none) (s x : Operand) (hop : o.op = .call { callee := .builtin .append, args := #[s, x], argTypes := #[25, 25] })
    {B g n cap : Nat} {u : Value} {us : List Value} (hs : a.eval s = .slice (some ⟨g, 0, none⟩) n cap) (hown : Own w B 3 (.slice (some ⟨g, 0, none⟩) n cap) us) {ad : Addr} {c : Nat} (hx : a.eval x = .slice (some ad) 1 c) (hu : w.cell? ad = some u)
    (h1 : u.oneCell' = true) (hn : us.length + 1 ≤ 1099511627776) (hB : B ≤ w.heap.size)
    (hK : ∀ g' cap' w', Own w' B 3 (.slice (some ⟨g', 0, none⟩) (n + 1) cap') (us ++ [u]) → w.grownBy w' (some g) → (g' = g ∨ w.heap.size ≤ g') → wpList Try.prog ops Q rest (a.put o.dst (.slice (some ⟨g', 0, none⟩) (n + 1) cap')) w') :
    wpList Try.prog ops Q (o :: rest) a w := by
  obtain ⟨i0, hi, hz0, hz1, hz2⟩ := info_parts Try.infoInt
  obtain rfl := hown.len
  have hc1 : ∀ (j : Nat) (y : Value), [u][j]? = some y → w.cell? (ad.add j) = some y := by
    intro j y hy
    match j, hy with
    | 0, hy =>
      simp at hy; subst hy
      have : ad.add 0 = ad := by unfold Addr.add; split <;> simp_all
      rw [this]; exact hu
  have ho1 : ∀ y ∈ [u], y.oneCell' = true := by intro y hy; simp at hy; subst hy; exact h1
  by_cases hr : us.length + 1 ≤ cap
  · refine wpList_append_own_spare w hg s x 25 hop B 3 i0 1 Try.underlying25 hi hz1 g us.length cap us hs hown ad 1 c [u] hx rfl hc1 ho1 hr ?_
    intro w' h2 h3
    have e : (us ++ [u]).length = us.length + 1 := by simp
    exact hK g cap w' (by unfold Own; rw [e]; exact h2) h3 (.inl rfl)
  · refine wpList_append_arg w hg s x 25 hop 3 i0 (.int .i64 0) 1 8 Try.underlying25 hi hz0 hz1 hz2 rfl (by decide) g 0 us.length cap us hs (by simp) (fun j y hy => by rw [Nat.zero_add]; exact hown.cell hy) ad 1 c [u] hx rfl hc1 ho1
      (fun h => absurd h hr) (by unfold maxLen; omega) (by omega) (fun h => absurd h hr) ?_
    intro _ v' w' h2 h3
    have h2' : Own w' w.heap.size 3 v' (us ++ [u]) := by unfold Own; rw [List.length_append]; exact h2
    obtain ⟨ao, c', rfl, _, _, _⟩ := Own.form h2'
    obtain ⟨g', rfl, hg1, hg2⟩ := h2'.head (by simp)
    have e : (us ++ [u]).length = us.length + 1 := by simp
    rw [e] at h2'
    have h4 := hK g' c' w' (h2'.mono hB) ⟨h3.os, h3.tape, h3.output, h3.size, fun k hk _ => h3.block k hk (by simp)⟩ (.inr hg1)
    rw [e]
    exact h4
theorem BoolsIn.grown {w w' : World} {b n : Nat} {T : TypeId} {P : Nat → Bool} (h : BoolsIn w b T n P) {row : Option Nat} (hg : w.grownBy w' row) (hr : row ≠ some b) : BoolsIn w' b T n P := by
  obtain ⟨arr, h1, h2, h3⟩ := h
  exact ⟨arr, by rw [hg.block b (Array.getElem?_eq_some_iff.1 h1).1 (fun e => hr e.symm)]; exact h1, h2, h3⟩
/-- The points to which the points of l are carried, in order. -/
def Perms.img (p l : List Int) : List Int := l.map fun a => p.getD a.toNat 0
def Perms.imgTo (p l : List Int) (j : Nat) : List Int := ((List.range j).filter fun (i : Nat) => decide ((i : Int) ∈ Perms.img p l)).map fun (i : Nat) => (i : Int)
theorem Perms.imgTo_step (p l : List Int) (j : Nat) : Perms.imgTo p l (j + 1) = if (j : Int) ∈ Perms.img p l then Perms.imgTo p l j ++ [(j : Int)] else Perms.imgTo p l j := by
  unfold Perms.imgTo
  rw [List.range_succ, List.filter_append]
  by_cases h : (j : Int) ∈ Perms.img p l
  · simp [h]
  · simp [h]
theorem Perms.imgTo_len (p l : List Int) (j : Nat) : (Perms.imgTo p l j).length ≤ j := by
  unfold Perms.imgTo
  rw [List.length_map]
  have := List.length_filter_le (fun (i : Nat) => decide ((i : Int) ∈ Perms.img p l)) (List.range j)
  rw [List.length_range] at this
  exact this
end Go.Proofs.Ytdibmjijpdliaaa
/- The cycles of a permutation, as both sides walk them. -/
set_option linter.unusedVariables false
namespace Go.Proofs.Ytdibmjijpdliaaa
open Go.RowKit

/-- What was seen: points, each once. -/
def Perms.Seen (n : Nat) (s : List Nat) : Prop := s.Nodup ∧ ∀ x ∈ s, x < n
theorem Perms.Seen.len {n : Nat} {s : List Nat} (h : Perms.Seen n s) : s.length ≤ n := by
  have := Perms.subset_len h.1 (fun x hx => List.mem_range.2 (h.2 x hx))
  rwa [List.length_range] at this
theorem Perms.Seen.push {n a : Nat} {s : List Nat} (h : Perms.Seen n s) (ha : a < n) (hs : a ∉ s) : Perms.Seen n (s ++ [a]) := by
  refine ⟨?_, fun x hx => ?_⟩
  · rw [List.nodup_append]
    refine ⟨h.1, by simp, fun x hx y hy => ?_⟩
    rw [List.mem_singleton] at hy
    subst hy
    intro e
    subst e
    exact hs hx
  · rcases List.mem_append.1 hx with hx | hx
    · exact h.2 x hx
    · rw [List.mem_singleton] at hx
      omega
theorem Perms.cycW_seen {p : List Int} (hR : Perms.inR p.length p) : ∀ (f a : Nat) (s : List Nat) (row : List Int), Perms.Seen p.length s → a < p.length → Perms.Seen p.length (Perms.cycW p f a s row).1
  | 0, a, s, row, h, _ => h
  | f + 1, a, s, row, h, ha => by
    unfold Perms.cycW
    by_cases hs : a ∈ s
    · rw [if_pos hs]; exact h
    · rw [if_neg hs]
      refine Perms.cycW_seen hR f _ _ _ (h.push ha hs) ?_
      have h2 := hR.2 (p.getD a 0) (by rw [List.getD, List.getElem?_eq_getElem ha]; exact List.getElem_mem ha)
      omega
theorem Perms.cycTo_seen {p : List Int} (hR : Perms.inR p.length p) : ∀ j, j ≤ p.length → Perms.Seen p.length (Perms.cycTo p j).1
  | 0, _ => ⟨by simp [Perms.cycTo], by simp [Perms.cycTo]⟩
  | j + 1, hj => by
    have ih := Perms.cycTo_seen hR j (by omega)
    unfold Perms.cycTo
    by_cases hs : j ∈ (Perms.cycTo p j).1
    · rw [if_pos hs]; exact ih
    · rw [if_neg hs]
      exact Perms.cycW_seen hR _ _ _ _ ih (by omega)
theorem Perms.cycW_row {p : List Int} : ∀ (f a : Nat) (s : List Nat) (row : List Int), (Perms.cycW p f a s row).2.length + s.length = row.length + (Perms.cycW p f a s row).1.length
  | 0, a, s, row => by simp [Perms.cycW]; 
  | f + 1, a, s, row => by
    unfold Perms.cycW
    by_cases hs : a ∈ s
    · rw [if_pos hs]
    · rw [if_neg hs]
      have := Perms.cycW_row (p := p) f (p.getD a 0).toNat (s ++ [a]) (row ++ [(a : Int)])
      simp only [List.length_append, List.length_singleton] at this
      omega
theorem Perms.cycTo_len (p : List Int) : ∀ j, (Perms.cycTo p j).2.length ≤ j
  | 0 => by simp [Perms.cycTo]
  | j + 1 => by
    have ih := Perms.cycTo_len p j
    unfold Perms.cycTo
    by_cases hs : j ∈ (Perms.cycTo p j).1
    · rw [if_pos hs]; omega
    · rw [if_neg hs]; simp; omega
/-- A store into the flags leaves the rows. -/
theorem BoolsIn.keepOwn {w : World} {b n B k : Nat} {T : TypeId} {P : Nat → Bool} (h : BoolsIn w b 4 n P) {v : Value} {xs : List Value} (ho : Own w B T v xs) (hT : T ≠ 4) (u : Value) : Own (w.setCell ⟨b, k, none⟩ u) B T v xs :=
  Own.setOther ho u (fun e => by
    obtain ⟨cur, hc⟩ := Own.block ho e
    obtain ⟨arr, h1, _⟩ := h
    rw [h1] at hc
    simp only [Option.some.injEq, Obj.cells.injEq] at hc
    exact hT hc.2.1.symm)
theorem BoolsIn.keepRows {w : World} {b n B E k : Nat} {P : Nat → Bool} (h : BoolsIn w b 4 n P) {us : List Value} {xss : List (List Int)} (hr : Rows w B E us xss) (u : Value) : Rows (w.setCell ⟨b, k, none⟩ u) B E us xss :=
  ⟨hr.1, fun i xs hi => by
    obtain ⟨z, h1, h2, h3⟩ := hr.2.1 i xs hi
    exact ⟨z, h1, h.keepOwn h2 (by decide) u, h3⟩, hr.2.2⟩
theorem BoolsIn.apartOf {w : World} {b n B : Nat} {T : TypeId} {P : Nat → Bool} (h : BoolsIn w b 4 n P) {v : Value} {xs : List Value} (ho : Own w B T v xs) (hT : T ≠ 4) : v.ownBlock ≠ some b := fun e => by
  obtain ⟨cur, hc⟩ := Own.block ho e
  obtain ⟨arr, h1, _⟩ := h
  rw [h1] at hc
  simp only [Option.some.injEq, Obj.cells.injEq] at hc
  exact hT hc.2.1.symm
end Go.Proofs.Ytdibmjijpdliaaa
/- The cycles of a permutation: both sides (printed by mk/mkcyc.py). -/
set_option linter.unusedVariables false
namespace Go.Proofs.Ytdibmjijpdliaaa
open Go.RowKit

set_option maxHeartbeats 3200000 in
theorem CyclesOf_i {vp : Value} {p : List Int} {w : World} {Q : Ending → World → Prop} (hp : IntsAt w vp p)
    (hQ : ∀ v w', OwnRows w' w.heap.size w'.heap.size v (Perms.cycles p) → Below w.heap.size w w' → Q (.returned v) w') :
    Calls Try.prog 67 #[vp] w Q := by
  have H := Lib.hid hQ; clear hQ
  have hp0 := Lib.hid hp
  obtain ⟨ap, cp, rfl, lp, lcp, ccp⟩ := hp.form
  clear hp
  by_cases hok : Perms.permB p = true
  rotate_left
  · have hf : Perms.permB p = false := by simpa using hok
    have hf' := Lib.hid hf
    have hc : Hid (Perms.cycles p = []) := Lib.hid (by unfold Perms.cycles; rw [if_neg hok])
    clear hok hf
    go_enter Try.func67, Try.ntmps67
    go_wp2_with fail
    refine PermOk_i hp0.out ?_
    intro w1 b1
    rw [hf'.out]
    have h3 := Lib.hid (H.out (.slice none 0 0) w1 (by rw [hc.out]; exact OwnRows.nil _ _ _) b1)
    go_wp2_with fail
    exact h3.out
  have hpl := Perms.permB_len hok
  have hR : Perms.inR p.length p := ⟨rfl, Perms.permB_range hok⟩
  have hR' := Lib.hid hR
  have hok' := Lib.hid hok
  have hc : Hid (Perms.cycles p = (Perms.cycTo p p.length).2) := Lib.hid (by unfold Perms.cycles; rw [if_pos hok])
  clear hok hR
  go_enter Try.func67, Try.ntmps67
  go_wp2_with fail
  refine PermOk_i hp0.out ?_
  intro w1 b1
  rw [hok'.out]
  have o0 := own_outer_empty w1
  have b0 := below_alloc w1 (.cells #[] 25)
  have bw0 := b1.trans (b0.mono b1.size)
  go_wp2_with (at_make; refine mk_bools rfl (.tmp 13) (.tmp 13) rfl rfl rfl p.length rfl (by omega) ?_; intro w2 hB2 hb2 hs2)
  obtain ⟨bb, hbb⟩ : ∃ bb, bb = (w1.alloc (.cells #[] 25)).heap.size := ⟨_, rfl⟩
  have hbb2 : w.heap.size ≤ bb := by have := b1.size; rw [hbb]; simp; omega
  have hbb3 : bb = w1.heap.size + 1 := by rw [hbb]; simp
  have hB2' : Hid (BoolsIn w2 bb 4 p.length (fun i => decide (i ∈ (Perms.cycTo p 0).1))) := Lib.hid (by rw [hbb]; exact hB2.congr (fun i hi => by simp [Perms.cycTo]))
  have o2 : Own w2 w.heap.size 25 (.slice (some ⟨w1.heap.size, 0, none⟩) 0 0) [] := Own.mono (Own.below o0 hb2) b1.size
  have bw2 := bw0.trans (hb2.mono bw0.size)
  have R0 : Hid (Rows w2 w.heap.size w2.heap.size [] (Perms.cycTo p 0).2) := Lib.hid (Rows.nil w2 w.heap.size w2.heap.size)
  rw [← hbb3]
  clear hB2 o0 hbb hbb3
  go_wp2_with fail
  go_loopg [3, 17] p.length (fun gg u3 u17 wr => ∃ (j : Nat) (us : List Value), u17 = .int .i64 j ∧ Own wr w.heap.size 25 u3 us ∧ Hid (Rows wr w.heap.size wr.heap.size us (Perms.cycTo p j).2) ∧ Hid (BoolsIn wr bb 4 p.length (fun i => decide (i ∈ (Perms.cycTo p j).1))) ∧ Below w.heap.size w wr ∧ j + gg ≤ p.length ∧ p.length ≤ j + gg)
  case atStart => exact ⟨0, [], rfl, o2, R0, hB2', bw2, by omega, by omega⟩
  case round =>
    obtain ⟨j, us, rfl, oj, rj, Bj, bj, hj1, hj2⟩ := hrel
    obtain ⟨gk1, hgk1⟩ : ∃ g, g = gk := ⟨_, rfl⟩
    obtain ⟨a3, c3, rfl, _, _, _⟩ := Own.form oj
    have hul : us.length ≤ 10 := by have := Perms.cycTo_len p j; rw [rj.out.1]; omega
    by_cases hj : j < p.length
    · have hjI : (j : Int) < p.length := by omega
      have hcb := Bj.out.cell hj
      have hseen := Lib.hid (Perms.cycTo_seen hR'.out j (by omega))
      have hst : Perms.cycTo p (j + 1) = if j ∈ (Perms.cycTo p j).1 then Perms.cycTo p j else ((Perms.cycW p (p.length + 1 - (Perms.cycTo p j).1.length) j (Perms.cycTo p j).1 []).1, (Perms.cycTo p j).2 ++ [(Perms.cycW p (p.length + 1 - (Perms.cycTo p j).1.length) j (Perms.cycTo p j).1 []).2]) := rfl
      by_cases hm : j ∈ (Perms.cycTo p j).1
      · rw [if_pos hm] at hst
        have hst' := Lib.hid hst
        rw [decide_eq_true hm] at hcb
        have rj' : Hid (Rows wr w.heap.size wr.heap.size us (Perms.cycTo p (j + 1)).2) := Lib.hid (by rw [hst'.out]; exact rj.out)
        have Bj' : Hid (BoolsIn wr bb 4 p.length (fun i => decide (i ∈ (Perms.cycTo p (j + 1)).1))) := Lib.hid (by rw [hst'.out]; exact Bj.out)
        clear hst hm
        go_wp2_with fail
        go_roundg (gk1 - 1)
        case measure => omega
        case rel => exact ⟨j + 1, us, by go_num, oj, rj', Bj', bj, by omega, by omega⟩
      · rw [if_neg hm] at hst
        rw [decide_eq_false hm] at hcb
        have hslt : (Perms.cycTo p j).1.length < p.length := by
          have h := (hseen.out.push hj hm).len
          rw [List.length_append, List.length_singleton] at h
          omega
        obtain ⟨R, hRe⟩ : ∃ R, R = Perms.cycW p (p.length + 1 - (Perms.cycTo p j).1.length) j (Perms.cycTo p j).1 [] := ⟨_, rfl⟩
        rw [← hRe] at hst
        have hst' := Lib.hid hst
        have hR0 : Hid (Perms.cycW p (p.length + 1 - (Perms.cycTo p j).1.length) j (Perms.cycTo p j).1 [] = R) := Lib.hid hRe.symm
        clear hst hRe
        go_wp2_with fail
        have o1 := own_empty wr
        have b1' := below_alloc wr (.cells #[] 3)
        obtain ⟨V, hV⟩ : ∃ V, V = wr.heap.size := ⟨_, rfl⟩
        have hVw : w.heap.size ≤ V := by have := bj.size; omega
        have hbV : bb < V := by rw [hV]; exact Bj.out.lt
        have i0 : OwnInts (wr.alloc (.cells #[] 3)) V (.slice (some ⟨wr.heap.size, 0, none⟩) 0 0) [] := by rw [hV]; exact o1
        have i1 := Own.below oj b1'
        have i2 : Hid (Rows (wr.alloc (.cells #[] 3)) w.heap.size V us (Perms.cycTo p j).2) := Lib.hid (by rw [hV]; exact rj.out.below b1')
        have i3 := Lib.hid (Bj.out.below b1')
        have i4 := bj.trans (b1'.mono bj.size)
        have i5 : V ≤ (wr.alloc (.cells #[] 3)).heap.size := by rw [hV]; exact b1'.size
        obtain ⟨S0, hS0⟩ : ∃ S0, S0 = (Perms.cycTo p j).1 := ⟨_, rfl⟩
        obtain ⟨T0, hT0⟩ : ∃ T0, T0 = (Perms.cycTo p j).2 := ⟨_, rfl⟩
        rw [← hS0] at hm hslt hseen hR0 i3
        rw [← hT0] at i2 hst'
        clear hS0 hT0 oj rj Bj bj hV hm
        go_loopg [6, 7] (p.length - S0.length) (fun gg u6 u7 w2 => ∃ (a : Nat) (s : List Nat) (row : List Int), u7 = .int .i64 a ∧ a < p.length ∧ OwnInts w2 V u6 row ∧ Own w2 w.heap.size 25 (.slice a3 us.length c3) us ∧ Hid (Rows w2 w.heap.size V us T0) ∧ Hid (BoolsIn w2 bb 4 p.length (fun i => decide (i ∈ s))) ∧ Below w.heap.size w w2 ∧ V ≤ w2.heap.size ∧ Hid (Perms.Seen p.length s) ∧ row.length ≤ s.length ∧ s.length + gg = p.length ∧ Hid (Perms.cycW p (gg + 1) a s row = R))
        case atStart => exact ⟨j, S0, [], rfl, hj, i0, i1, i2, i3, i4, i5, hseen, by simp, by omega, Lib.hid (by rw [← hR0.out]; congr 1; omega)⟩
        case round =>
          obtain ⟨a, s, row, rfl, ha, ir, io, iR, iB, bi, hVs, hss, hrl, hsg, hcw⟩ := hrel
          obtain ⟨a6, c6, rfl, _, _, _⟩ := Own.form ir
          have haI : (a : Int) < p.length := by omega
          have hca := iB.out.cell ha
          have hfa := iB.out.frozen a
          have hss10 := hss.out.len
          by_cases hma : a ∈ s
          · rw [decide_eq_true hma] at hca
            have hR1 : Hid (R = (s, row)) := Lib.hid (by rw [← hcw.out]; unfold Perms.cycW; rw [if_pos hma])
            clear hma
            have ba := below_alloc wr (.cells #[.slice a6 (ints row).length c6] 25)
            have io3 := Own.below io ba
            have hr3 := row_one wr (.slice a6 (ints row).length c6) 25
            have hone : Hid (∀ y' ∈ [Value.slice a6 (ints row).length c6], y'.oneCell' = true) := Lib.hid (fun y' hy' => by rw [List.mem_singleton] at hy'; rw [hy']; rfl)
            have oy := Lib.hid (OwnInts.below ir ba)
            have iR3 := Lib.hid (iR.out.below ba)
            have bi3 := bi.trans (ba.mono bi.size)
            have iB3 := Lib.hid (iB.out.below ba)
            go_wp2_with (at_builtin; refine app_outer rfl (.tmp 42) (.tmp 44) rfl rfl io3 rfl hr3 hone.out (by show us.length + 1 ≤ 1099511627776; omega) bi3.size ?_; intro v5 w5 o5 g5)
            have r5 : Hid (Rows w5 w.heap.size w5.heap.size (us ++ [.slice a6 (ints row).length c6]) (Perms.cycTo p (j + 1)).2) := Lib.hid (by
              rw [hst'.out, hR1.out]
              exact (((iR3.out).push (xs := row) (OwnInts.mono oy.out hVw) (fun b hb => (Own.lt oy.out hb).1)).outer io3 g5).tight)
            have b5 := bi3.grown g5 bi3.size (fun b hb => (Own.lt io3 hb).1)
            have B5 : Hid (BoolsIn w5 bb 4 p.length (fun i => decide (i ∈ (Perms.cycTo p (j + 1)).1))) := Lib.hid (by
              rw [hst'.out, hR1.out]
              exact iB3.out.grown g5 (iB3.out.apartOf io3 (by decide)))
            go_roundg (gk1 - 1)
            case measure => omega
            case rel => exact ⟨j + 1, _, by go_num, o5, r5, B5, b5, by omega, by omega⟩
          · rw [decide_eq_false hma] at hca
            have hs2 := hss.out.push ha hma
            have hlt := hs2.len
            rw [List.length_append, List.length_singleton] at hlt
            have hcw2 : Hid (Perms.cycW p gk (p.getD a 0).toNat (s ++ [a]) (row ++ [(a : Int)]) = R) := Lib.hid (by
              rw [← hcw.out]
              conv => rhs; unfold Perms.cycW
              rw [if_neg hma])
            obtain ⟨bp, op, y, rfl, hy, hcy⟩ := hp0.out.cell (k := a) ha
            have hyr := hR'.out.2 y (List.mem_of_getElem? hy.out)
            obtain ⟨q, rfl⟩ : ∃ q : Nat, y = q := ⟨y.toNat, by omega⟩
            have hcw3 : Hid (Perms.cycW p gk q (s ++ [a]) (row ++ [(a : Int)]) = R) := Lib.hid (by
              rw [← hcw2.out]
              simp [List.getD, hy.out])
            have hs2' := Lib.hid hs2
            have jr : OwnInts (wr.setCell ⟨bb, a, none⟩ (.bool true)) V (.slice a6 (ints row).length c6) row := iB.out.keepOwn ir (by decide) _
            have jo := iB.out.keepOwn io (by decide) (.bool true) (k := a)
            have jR := Lib.hid (iB.out.keepRows iR.out (.bool true) (k := a))
            have jB : BoolsIn (wr.setCell ⟨bb, a, none⟩ (.bool true)) bb 4 p.length (fun i => decide (i ∈ s ++ [a])) := (iB.out.set a true).congr (fun i hi => by
              by_cases e : i = a
              · simp [e]
              · simp [e])
            have jB' := Lib.hid jB
            have bi2 := bi.setCell (p := ⟨bb, a, none⟩) hbb2 (.bool true)
            have hVs2 : V ≤ (wr.setCell ⟨bb, a, none⟩ (.bool true)).heap.size := by simp [World.setCell]; exact hVs
            have hcn : Hid (((wr.setCell ⟨bb, a, none⟩ (.bool true)).alloc (.cells #[.int .i64 (a : Int)] 3)).cell? ⟨wr.heap.size, 0, none⟩ = some (.int .i64 (a : Int))) := Lib.hid (by
              have h := cell_new (wr.setCell ⟨bb, a, none⟩ (.bool true)) (.int .i64 (a : Int)) 3
              have e : (wr.setCell ⟨bb, a, none⟩ (.bool true)).heap.size = wr.heap.size := by simp [World.setCell]
              rw [e] at h
              exact h)
            have ba := below_alloc (wr.setCell ⟨bb, a, none⟩ (.bool true)) (.cells #[.int .i64 (a : Int)] 3)
            have b6 := bi2.trans (ba.mono bi2.size)
            have kr := Lib.hid (OwnInts.below jr ba)
            have ko := Own.below jo ba
            have kR := Lib.hid (jR.out.below ba)
            have kB := Lib.hid (jB'.out.below ba)
            have kV : V ≤ ((wr.setCell ⟨bb, a, none⟩ (.bool true)).alloc (.cells #[.int .i64 (a : Int)] 3)).heap.size := by simp [World.setCell]; omega
            have hrl10 : row.length + 1 ≤ 17592186044416 := by omega
            clear hcw hcw2 hma hs2 jB jr jo jR jB'
            go_wp2_with (at_builtin; refine app_int rfl (.tmp 38) (.tmp 40) rfl rfl kr.out rfl hcn.out hrl10 kV ?_; intro v7 w7 o7 g7; have b7 := b6.grown g7 b6.size (fun b hb => by have := (Own.lt kr.out hb).1; omega); have hcy7 := below_cells b7 _ _ hcy)
            have ko7 := Own.grown ko g7 (own_types kr.out ko (by decide))
            have kR7 := Lib.hid (kR.out.grown g7 (fun k hk => .inr (Own.lt kr.out hk).1))
            have kB7 := Lib.hid (kB.out.grown g7 (kB.out.apartOf kr.out (by decide)))
            have kV7 : V ≤ w7.heap.size := Nat.le_trans kV g7.size
            have hqp : q < p.length := by omega
            have hrl7 : (row ++ [(a : Int)]).length ≤ (s ++ [a]).length := by simp; omega
            have hg7 : (s ++ [a]).length + (gk - 1) = p.length := by simp; omega
            have hcw7 : Hid (Perms.cycW p (gk - 1 + 1) q (s ++ [a]) (row ++ [(a : Int)]) = R) := Lib.hid (by rw [← hcw3.out]; congr 1; omega)
            go_roundg (gk - 1)
            case measure => omega
            case rel => exact ⟨q, _, _, by go_num, hqp, o7, ko7, kR7, kB7, b7, kV7, hs2', hrl7, hg7, hcw7⟩
    · have hje : j = p.length := by omega
      have h2 : OwnRows wr w.heap.size wr.heap.size (.slice a3 us.length c3) (Perms.cycles p) := by
        rw [hc.out, ← hje]
        exact rj.out.whole oj (Own.inBlk oj)
      have h3 := Lib.hid (H.out _ wr h2 bj)
      clear h2
      go_wp2_with fail
      exact h3.out
end Go.Proofs.Ytdibmjijpdliaaa
/- How many colorings a group leaves apart: both sides (printed by mk/mkcolo.py). -/
set_option linter.unusedVariables false
namespace Go.Proofs.Ytdibmjijpdliaaa
open Go.RowKit

def Perms.sumTo (g : List (List Int)) (k : Int) : Nat → Int
  | 0 => 0
  | j + 1 => Perms.sumTo g k j + Nums.pw k (Perms.cycles (g.getD j [])).length
def Perms.colO (g : List (List Int)) (k : Int) : Int := if Perms.grpB g = true ∧ 0 ≤ k ∧ k ≤ 4 then Perms.sumTo g k g.length / g.length else -1
theorem Perms.cycles_len (p : List Int) : (Perms.cycles p).length ≤ 10 := by
  unfold Perms.cycles
  by_cases h : Perms.permB p = true
  · rw [if_pos h]
    have := Perms.cycTo_len p p.length
    have := Perms.permB_len h
    omega
  · rw [if_neg h]; simp
theorem Perms.sum_bd (g : List (List Int)) {k : Int} (h0 : 0 ≤ k) (h4 : k ≤ 4) : ∀ j : Nat, 0 ≤ Perms.sumTo g k j ∧ Perms.sumTo g k j ≤ 1048576 * j
  | 0 => by simp [Perms.sumTo]
  | j + 1 => by
    have ih := Perms.sum_bd g h0 h4 j
    have hc := Perms.cycles_len (g.getD j [])
    have h1 := Nums.powTo_bd4 h0 h4 (Perms.cycles (g.getD j [])).length
    have h2 : 4 ^ (Perms.cycles (g.getD j [])).length ≤ 4 ^ 10 := Nat.pow_le_pow_right (by omega) hc
    have h3 : Nums.pw k (Perms.cycles (g.getD j [])).length = Nums.powTo k (Perms.cycles (g.getD j [])).length := by unfold Nums.pw; rw [Int.toNat_natCast]
    unfold Perms.sumTo
    rw [h3]
    omega
theorem CountCycles_i {vp : Value} {p : List Int} {w : World} {Q : Ending → World → Prop} (hp : IntsAt w vp p)
    (hQ : ∀ w', Below w.heap.size w w' → Q (.returned (.int .i64 (Perms.cycles p).length)) w') :
    Calls Try.prog 29 #[vp] w Q := by
  have H := Lib.hid hQ; clear hQ
  have hp0 := Lib.hid hp
  obtain ⟨ap, cp, rfl, lp, lcp, ccp⟩ := hp.form
  clear hp
  go_enter Try.func29, Try.ntmps29
  go_wp2_with fail
  refine CyclesOf_i hp0.out ?_
  intro v1 w1 o1 b1
  have h3 := Lib.hid (H.out w1 b1)
  obtain ⟨a1, c1, rfl, _, _, _⟩ := o1.form
  go_wp2_with fail
  exact h3.out
set_option maxHeartbeats 1600000 in
theorem CountColorings_i {vg : Value} {g : List (List Int)} {k : Int} {w : World} {Q : Ending → World → Prop} (hg : RowsAt w vg g)
    (hQ : ∀ w', Below w.heap.size w w' → Q (.returned (.int .i64 (Perms.colO g k))) w') :
    Calls Try.prog 21 #[vg, .int .i64 k] w Q := by
  have H := Lib.hid hQ; clear hQ
  have hg0 := Lib.hid hg
  obtain ⟨ag, cg, rfl, lg, lcg, ccg⟩ := hg.form
  clear hg
  by_cases hok : Perms.grpB g = true ∧ 0 ≤ k ∧ k ≤ 4
  rotate_left
  · have hc : Perms.colO g k = -1 := by unfold Perms.colO; rw [if_neg hok]
    rw [hc] at H
    have hk : Hid (Perms.grpB g = true → ¬ (0 ≤ k ∧ k ≤ 4)) := Lib.hid (fun a b => hok ⟨a, b⟩)
    clear hok hc
    go_enter Try.func21, Try.ntmps21
    go_wp2_with fail
    refine GroupOk_i hg0.out ?_
    intro w1 b1
    have h3 := Lib.hid (H.out w1 b1)
    cases hb : Perms.grpB g with
    | false =>
      clear hb
      go_wp2_with fail
      exact h3.out
    | true =>
      have hk2 := hk.out hb
      clear hb
      rcases Int.lt_or_le k 0 with hk3 | hk3
      · go_wp2_with fail
        exact h3.out
      · have hk4 : 4 < k := by omega
        go_wp2_with fail
        exact h3.out
  obtain ⟨hgr, hk0, hk4⟩ := hok
  have hc : Hid (Perms.colO g k = Perms.sumTo g k g.length / g.length) := Lib.hid (by unfold Perms.colO; rw [if_pos ⟨hgr, hk0, hk4⟩])
  obtain ⟨hl1, hl2, _, _⟩ := Perms.grpB_parts hgr
  have hgr' := Lib.hid hgr
  clear hgr
  go_enter Try.func21, Try.ntmps21
  go_wp2_with fail
  refine GroupOk_i hg0.out ?_
  intro w1 b1
  rw [hgr'.out]
  go_wp2_with fail
  go_loopg [5, 21] g.length (fun gg u5 u21 wr => ∃ (j : Nat), u21 = .int .i64 j ∧ u5 = .int .i64 (Perms.sumTo g k j) ∧ Below w.heap.size w wr ∧ j + gg ≤ g.length ∧ g.length ≤ j + gg)
  case atStart => exact ⟨0, rfl, rfl, b1, by omega, by omega⟩
  case round =>
    obtain ⟨j, rfl, rfl, bj, hj1, hj2⟩ := hrel
    have hsb := Perms.sum_bd g hk0 hk4 j
    by_cases hj : j < g.length
    · have hjI : (j : Int) < g.length := by omega
      obtain ⟨b7, f7, u, x, e7, hx, hcx, hux⟩ := (hg0.out.below bj).cell hj
      cases e7
      obtain ⟨ax, cx, rfl, _, _, _⟩ := hux.form
      have hux' := Lib.hid hux
      have hcl := Perms.cycles_len x
      have hsb2 := Perms.sum_bd g hk0 hk4 (j + 1)
      have hst : Perms.sumTo g k (j + 1) = Perms.sumTo g k j + Nums.pw k (Perms.cycles x).length := by
        have e : g.getD j [] = x := by simp [List.getD, hx.out]
        show Perms.sumTo g k j + Nums.pw k (Perms.cycles (g.getD j [])).length = _
        rw [e]
      obtain ⟨P, hP⟩ : ∃ P, P = Nums.pw k (Perms.cycles x).length := ⟨_, rfl⟩
      obtain ⟨n, hn⟩ : ∃ n, n = (Perms.cycles x).length := ⟨_, rfl⟩
      rw [← hP] at hst
      rw [← hn] at hP hcl
      have hP' := Lib.hid hP
      have hn' := Lib.hid hn
      have hbd : -9223372036854775808 ≤ Perms.sumTo g k j + P ∧ Perms.sumTo g k j + P ≤ 9223372036854775807 := by omega
      have hst' := Lib.hid hst
      clear hux hP hn hst hsb2
      go_wp2_with (first
        | (refine CountCycles_i hux'.out ?_; intro w3 b3; rw [← hn'.out])
        | (go_at_call 62; refine power_i hk0 hk4 (by omega) (by omega) ?_; rw [← hP'.out]))
      have bj3 := bj.trans (b3.mono bj.size)
      go_roundg (gk - 1)
      case measure => omega
      case rel => exact ⟨j + 1, by go_num, by rw [hst'.out], bj3, by omega, by omega⟩
    · have hje : j = g.length := by omega
      subst hje
      have h3 := Lib.hid (H.out wr bj)
      rw [hc.out] at h3
      obtain ⟨T, hT⟩ : ∃ T, T = Perms.sumTo g k g.length := ⟨_, rfl⟩
      rw [← hT] at h3 hsb ⊢
      clear hT hc
      have hq0 : 0 ≤ T / (g.length : Int) := Int.ediv_nonneg hsb.1 (by omega)
      have hq1 : T / (g.length : Int) ≤ T := Int.ediv_le_self _ hsb.1
      have hgz : ((g.length : Int) == 0) = false := by rw [beq_eq_false_iff_ne]; omega
      have hgm : ((g.length : Int) == -1) = false := by rw [beq_eq_false_iff_ne]; omega
      go_wp2_with fail
      exact h3.out
end Go.Proofs.Ytdibmjijpdliaaa
/- What the laws on patterns ask. No program in sight. -/
set_option linter.unusedVariables false
namespace Go.Proofs.Ytdibmjijpdliaaa.Perms

theorem cells_length (p : List Int) : (cells p).length = (cycles p).length := by simp [cells]
theorem cells_lens (p : List Int) : (cells p).map List.length = (cycles p).map List.length := by simp [cells]
theorem grp_ne {g : List (List Int)} (h : grpB g = true) : g ≠ [] := List.ne_nil_of_length_pos (by have := (grpB_parts h).1; omega)
theorem sumTo_nat (g : List (List Int)) {k : Int} (hk : 0 ≤ k) : ∀ j, j ≤ g.length → sumTo g k j = ((((g.take j).map fun p => k.toNat ^ (cells p).length).sum : Nat) : Int)
  | 0, _ => rfl
  | j + 1, h => by
    have hg : g[j]? = some g[j] := List.getElem?_eq_getElem (by omega)
    have e : g.getD j [] = g[j] := by simp [List.getD, hg]
    rw [sumTo, sumTo_nat g hk j (by omega), List.take_add_one, hg, e, List.map_append, List.sum_append]
    unfold Nums.pw
    rw [Int.toNat_natCast, powTo_eq hk, Option.toList_some, List.map_cons, List.map_nil, List.sum_cons, List.sum_nil, cells_length]
    omega
/-- There are as many patterns as the program counts colorings. -/
theorem colO_eq {g : List (List Int)} {k : Int} (h : grpB g = true) (hn : (row0 g).length ≤ 6) (h0 : 0 ≤ k) (h4 : k ≤ 4) : colO g k = ((pats g k).length : Int) := by
  have hp := (grpB_parts h).1
  unfold colO
  rw [if_pos ⟨h, h0, h4⟩, sumTo_nat g h0 _ (Nat.le_refl _), List.take_length, (grpB_grp h).count (grp_ne h) hn, pats_reps, Int.natCast_mul]
  exact Int.mul_ediv_cancel _ (by omega)
/-- What keeps a coloring is a group. -/
theorem keep_grp {g : List (List Int)} {l : List Int} (h : grpB g = true) (hl : l.length = (row0 g).length) : grpB (keep g l) = true := by
  obtain ⟨h1, h2, h3, h4⟩ := grpB_parts h
  have G := grpB_grp h
  have hpos := G.keep_pos (grp_ne h) hl
  have hle := List.length_filter_le (fun p => decide (act p l = l)) g
  have hmem : ∀ p ∈ keep g l, permB p = true ∧ p.length = (row0 g).length := fun p hp => ⟨G.perm p (keep_mem.1 hp).1, G.len p (keep_mem.1 hp).1⟩
  have hr : (row0 (keep g l)).length = (row0 g).length := by
    unfold row0 List.getD
    rw [List.getElem?_eq_getElem hpos]
    exact (hmem _ (List.getElem_mem hpos)).2
  unfold grpB
  rw [rowsTo_of (fun p hp => ⟨(hmem p hp).1, by rw [hr]; exact (hmem p hp).2⟩) ((rowsTo_asc h3).filter _) _ (Nat.le_refl _), closed_ok fun p hp q hq => ?_, decide_eq_true ⟨hpos, Nat.le_trans hle h2⟩]
  · rfl
  · obtain ⟨p1, p2⟩ := keep_mem.1 hp
    obtain ⟨q1, q2⟩ := keep_mem.1 hq
    exact keep_mem.2 ⟨G.mul p p1 q q1, by rw [G.act_mul p1 q1 hl, p2, q2]⟩
theorem sum_filter_le {α : Type} {P : α → Bool} {f : α → Nat} {c : Nat} : ∀ {l : List α}, (∀ a ∈ l, P a = true → c ≤ f a) → (l.filter P).length * c ≤ (l.map f).sum
  | [], _ => by simp
  | a :: l, h => by
    have ih := sum_filter_le (l := l) fun x hx => h x (List.mem_cons_of_mem _ hx)
    rw [List.filter_cons, List.map_cons, List.sum_cons]
    by_cases e : P a = true
    · rw [if_pos e, List.length_cons, Nat.succ_mul]
      have := h a List.mem_cons_self e
      omega
    · rw [if_neg e]; omega
theorem sum_pats {g : List (List Int)} (h : grpB g = true) (k : Int) : ((pats g k).map fun r => (im g r).length).sum = k.toNat ^ (row0 g).length := by
  rw [pats_reps, ((grpB_grp h).acts k.toNat).sum_images (grpB_grp h) (grp_ne h), wordsN_len]
theorem rigid_le {g : List (List Int)} (h : grpB g = true) (k : Int) : rigidTo g (pats g k) (pats g k).length * g.length ≤ k.toNat ^ (row0 g).length := by
  rw [← sum_pats h k]
  unfold rigidTo
  rw [List.take_length]
  refine sum_filter_le fun r hr hk => ?_
  have hl : r.length = (row0 g).length := (pats_mem.1 hr).1.1
  have := (grpB_grp h).orbit hl
  rw [of_decide_eq_true hk] at this
  omega
theorem rigidI_facts {g : List (List Int)} (h : grpB g = true) (hn : (row0 g).length ≤ 6) : 0 ≤ rigidI g 2 ∧ rigidI g 2 * (g.length : Int) ≤ ((2 ^ (row0 g).length : Nat) : Int) := by
  have hs : smallB g 2 = true := by
    unfold smallB
    rw [h]
    simp only [Bool.true_and, Bool.and_eq_true, decide_eq_true_eq]
    refine ⟨by omega, ?_⟩
    unfold Nums.pw
    rw [Int.toNat_natCast, powTo_eq (by omega)]
    have : (2 : Int).toNat ^ (row0 g).length ≤ 2 ^ 6 := Nat.pow_le_pow_right (by omega) hn
    omega
  unfold rigidI
  rw [if_pos hs]
  have := rigid_le h 2
  refine ⟨by omega, ?_⟩
  exact_mod_cast this
theorem canonW_fit {g : List (List Int)} {l : List Int} (h : fitsB g l = true) : canonW g l = canon g l := by unfold canonW; rw [if_pos h]
theorem fitsB_of {g : List (List Int)} {k : Int} {l : List Int} (h : grpB g = true) (hl : l.length = (row0 g).length) (hk : k ≤ 4) (hr : ∀ x ∈ l, 0 ≤ x ∧ x < k) : fitsB g l = true := by
  have := row0_len h
  unfold fitsB
  rw [h, Words.okW_mk (by omega) (by omega) (fun x hx => by have := hr x hx; omega), decide_eq_true hl]
  rfl
theorem numI_at {g : List (List Int)} {k : Int} {i : Nat} {x : List Int} (hs : smallB g k = true) (hx : (pats g k)[i]? = some x) : numI g k x = i := by
  have hm := List.mem_of_getElem? hx
  unfold numI
  rw [if_pos ⟨hs, pats_fits hs hm⟩, (pats_mem.1 hm).2]
  exact idx_at (pats_asc g k) hx
/-- The number of a word's pattern is the place of its least image. -/
theorem numI_word {g : List (List Int)} {k : Int} {w : List Int} (hs : smallB g k = true) (hl : w.length = (row0 g).length) (hr : ∀ x ∈ w, 0 ≤ x ∧ x < k) :
    ∃ j : Nat, numI g k w = j ∧ (pats g k)[j]? = some (canon g w) ∧ sameB g (canon g w) w = true := by
  obtain ⟨h1, h2, h3, h4⟩ := smallB_parts hs
  have G := grpB_grp h1
  have hw : w ∈ wordsN k.toNat (row0 g).length := wordsN_mem.2 ⟨hl, fun x hx => by have := hr x hx; omega⟩
  have hc := (G.acts k.toNat).canon_mem G (grp_ne h1) hw
  rw [← pats_reps] at hc
  obtain ⟨j, hj⟩ := List.getElem?_of_mem hc
  have hf := fitsB_of h1 hl h3 hr
  have hf2 := pats_fits hs hc
  refine ⟨j, ?_, hj, ?_⟩
  · unfold numI
    rw [if_pos ⟨hs, hf⟩]
    exact idx_at (pats_asc g k) hj
  · unfold sameB
    rw [hf2, hf, canonW_fit hf2, canonW_fit hf, G.canon_canon (grp_ne h1) hl]
    simp

/-! ### one letter -/
def oneL (n j : Nat) (v : Int) : List Int := (List.replicate n 0).set j v
theorem one_len (n j : Nat) (v : Int) : (oneL n j v).length = n := by simp [oneL]
theorem one_get {n j i : Nat} {v : Int} (hi : i < n) : (oneL n j v)[i]? = some (if i = j then v else 0) := by
  unfold oneL
  rw [List.getElem?_set]
  by_cases e : j = i
  · subst e
    rw [if_pos rfl, if_pos (by simpa using hi), if_pos rfl]
  · rw [if_neg e, if_neg fun h => e h.symm]
    simp [hi]
theorem num_all : ∀ {w : List Int}, num w 0 = w.length → w = List.replicate w.length 0
  | [], _ => rfl
  | x :: w, h => by
    unfold num at h
    rw [List.filter_cons] at h
    have hle := List.length_filter_le (fun y => decide (y = 0)) w
    by_cases e : x = 0
    · subst e
      rw [if_pos (by simp), List.length_cons, List.length_cons] at h
      rw [List.length_cons, List.replicate_succ, ← num_all (w := w) (by unfold num; omega)]
    · rw [if_neg (by simpa using e), List.length_cons] at h
      omega
theorem num_one : ∀ {w : List Int}, num w 0 + 1 = w.length → ∃ j v, j < w.length ∧ v ≠ 0 ∧ w = oneL w.length j v
  | [], h => by simp at h
  | x :: w, h => by
    have h' := h
    unfold num at h
    rw [List.filter_cons] at h
    by_cases e : x = 0
    · subst e
      rw [if_pos (by simp), List.length_cons, List.length_cons] at h
      obtain ⟨j, v, h1, h2, h3⟩ := num_one (w := w) (by unfold num; omega)
      refine ⟨j + 1, v, by simpa using h1, h2, ?_⟩
      conv => lhs; rw [h3]
      rfl
    · rw [if_neg (by simpa using e), List.length_cons] at h
      refine ⟨0, x, by simp, e, ?_⟩
      rw [num_all (w := w) (by unfold num; omega)]
      simp [oneL, List.replicate_succ]
theorem one_num {n : Nat} : ∀ {j : Nat} {v : Int}, j < n → v ≠ 0 → num (oneL n j v) 0 + 1 = n := by
  have hrep : ∀ n, num (List.replicate n (0 : Int)) 0 = n := fun n => by
    unfold num
    rw [List.filter_eq_self.2 fun x hx => by rw [List.eq_of_mem_replicate hx]; rfl, List.length_replicate]
  induction n with
  | zero => intro j v h; omega
  | succ n ih =>
    intro j v h hv
    cases j with
    | zero =>
      have : oneL (n + 1) 0 v = v :: List.replicate n 0 := by simp [oneL, List.replicate_succ]
      rw [this]
      have := hrep n
      unfold num at this ⊢
      rw [List.filter_cons, if_neg (by simpa using hv)]
      omega
    | succ j =>
      have e : oneL (n + 1) (j + 1) v = 0 :: oneL n j v := by simp [oneL, List.replicate_succ]
      have := ih (j := j) (v := v) (by omega) hv
      rw [e]
      unfold num at this ⊢
      rw [List.filter_cons, if_pos (by simp), List.length_cons]
      omega
theorem one_inj {n i j : Nat} {u v : Int} (hi : i < n) (hj : j < n) (hu : u ≠ 0) (hv : v ≠ 0) (e : oneL n i u = oneL n j v) : i = j ∧ u = v := by
  have a := one_get (n := n) (j := i) (v := u) hi
  rw [e, one_get hi] at a
  have a := Option.some.inj a
  rw [if_pos rfl] at a
  by_cases h : i = j
  · rw [if_pos h] at a; exact ⟨h, a.symm⟩
  · rw [if_neg h] at a; exact absurd a.symm hu
theorem one_mem {n j : Nat} {v x : Int} (hx : x ∈ oneL n j v) : x = v ∨ x = 0 := by
  unfold oneL at hx
  rcases List.mem_or_eq_of_mem_set hx with h | h
  · exact .inr (List.eq_of_mem_replicate h)
  · exact .inl h
theorem cmp_one {n : Nat} : ∀ {i j : Nat} {v : Int}, i < n → j < n → 0 < v → (Words.cmpL (oneL n i v) (oneL n j v) < 0 ↔ j < i) := by
  induction n with
  | zero => intro i j v h; omega
  | succ n ih =>
    intro i j v hi hj hv
    have e0 : ∀ u : Int, oneL (n + 1) 0 u = u :: List.replicate n 0 := fun u => by simp [oneL, List.replicate_succ]
    have es : ∀ (k : Nat) (u : Int), oneL (n + 1) (k + 1) u = 0 :: oneL n k u := fun k u => by simp [oneL, List.replicate_succ]
    cases i with
    | zero =>
      cases j with
      | zero => rw [Words.cmpL_self]; omega
      | succ j =>
        rw [e0, es]
        simp only [Words.cmpL]
        rw [if_neg (by omega), if_pos (by omega)]
        omega
    | succ i =>
      cases j with
      | zero =>
        rw [e0, es]
        simp only [Words.cmpL]
        rw [if_pos (by omega)]
        omega
      | succ j =>
        rw [es, es]
        simp only [Words.cmpL]
        rw [if_neg (by omega), if_neg (by omega), ih (by omega) (by omega) hv]
        omega
theorem Grp.act_one_at {g : List (List Int)} {n : Nat} (G : Grp g n) {p : List Int} (hp : p ∈ g) {j : Nat} (hj : j < n) (v : Int) : act p (oneL n j v) = oneL n (p.getD j 0).toNat v := by
  have hl := G.len p hp
  refine perm_ext (G.perm p hp) (by rw [act_len, one_len, hl]) (by rw [one_len, hl]) fun i x hx => ?_
  have hi : i < n := by have := (List.getElem?_eq_some_iff.1 hx).1; omega
  obtain ⟨x0, x1⟩ := G.val hp hx
  rw [act_at (G.perm p hp) (by rw [hl, one_len]) hx (one_get hi), one_get x1]
  congr 1
  have hy : p[j]? = some (p.getD j 0) := by simp [List.getD, List.getElem?_eq_getElem (show j < p.length by omega)]
  obtain ⟨y0, y1⟩ := G.val hp hy
  by_cases e : i = j
  · subst e
    rw [hy] at hx
    have := Option.some.inj hx
    rw [if_pos rfl, if_pos (by rw [this])]
  · rw [if_neg e, if_neg]
    intro h
    rw [show p.getD j 0 = x from by omega] at hy
    exact e (G.inj hp hx hy)
/-- Points that no element carries further on. -/
def maxs (g : List (List Int)) (n : Nat) : List Nat := (List.range n).filter fun j => g.all fun p => decide (p.getD j 0 ≤ (j : Int))
theorem Grp.canon_one {g : List (List Int)} {n : Nat} (G : Grp g n) (h0 : g ≠ []) {j : Nat} (hj : j < n) {v : Int} (hv : 0 < v) : canon g (oneL n j v) = oneL n j v ↔ j ∈ maxs g n := by
  unfold maxs
  rw [List.mem_filter, List.mem_range, List.all_eq_true]
  have hval : ∀ p ∈ g, 0 ≤ p.getD j 0 ∧ (p.getD j 0).toNat < n := fun p hp => G.val hp (i := j) (by simp [List.getD, List.getElem?_eq_getElem (show j < p.length by rw [G.len p hp]; exact hj)])
  constructor
  · intro h
    refine ⟨hj, fun p hp => decide_eq_true ?_⟩
    have := canon_min (l := oneL n j v) hp
    have hp2 := hval p hp
    rw [h, G.act_one_at hp hj, cmp_one hp2.2 hj hv] at this
    omega
  · rintro ⟨_, h⟩
    refine G.canon_uniq h0 (one_len n j v) ⟨_, G.one h0, (G.act_one h0 (one_len n j v)).symm⟩ fun p hp => ?_
    have hp2 := hval p hp
    rw [G.act_one_at hp hj, cmp_one hp2.2 hj hv]
    have := of_decide_eq_true (h p hp)
    omega
/-- Patterns with one letter that isn't zero. -/
theorem one_pats {g : List (List Int)} (h : grpB g = true) {k : Int} (hk : 1 ≤ k) :
    ((pats g k).filter fun w => decide (num w 0 + 1 = (row0 g).length)).length = (maxs g (row0 g).length).length * (k.toNat - 1) := by
  have G := grpB_grp h
  have h0 := grp_ne h
  have hn : ((maxs g (row0 g).length).flatMap fun j => (List.range (k.toNat - 1)).map fun v => oneL (row0 g).length j ((v + 1 : Nat) : Int)).Nodup := by
    unfold List.Nodup
    rw [List.pairwise_flatMap]
    constructor
    · intro j hj
      have hj := List.mem_range.1 (List.mem_filter.1 hj).1
      refine nodup_map_on List.nodup_range fun x _ y _ e => ?_
      have := (one_inj hj hj (by omega) (by omega) e).2
      omega
    · refine List.Pairwise.imp_of_mem (fun {i j} hi hj hij u hu v hv e => ?_) ((List.nodup_range (n := (row0 g).length)).sublist List.filter_sublist)
      have hi := List.mem_range.1 (List.mem_filter.1 hi).1
      have hj := List.mem_range.1 (List.mem_filter.1 hj).1
      obtain ⟨a, _, rfl⟩ := List.mem_map.1 hu
      obtain ⟨b, _, rfl⟩ := List.mem_map.1 hv
      exact hij (one_inj hi hj (by omega) (by omega) e).1
  have hlen : ((maxs g (row0 g).length).flatMap fun j => (List.range (k.toNat - 1)).map fun v => oneL (row0 g).length j ((v + 1 : Nat) : Int)).length = (maxs g (row0 g).length).length * (k.toNat - 1) := by
    rw [List.length_flatMap]
    exact sum_const fun j _ => by rw [List.length_map, List.length_range]
  rw [← hlen]
  refine same_len ((pats_asc g k).nodup.sublist List.filter_sublist) hn fun w => ?_
  rw [List.mem_filter, decide_eq_true_eq, pats_mem, List.mem_flatMap]
  constructor
  · rintro ⟨⟨⟨h1, h2⟩, h3⟩, h4⟩
    obtain ⟨j, v, hj, hv, e⟩ := num_one (w := w) (by omega)
    rw [h1] at hj e
    have hm : v ∈ w := by
      rw [e]
      have := one_get (n := (row0 g).length) (j := j) (v := v) hj
      rw [if_pos rfl] at this
      exact List.mem_of_getElem? this
    have hv2 := h2 v hm
    rw [e] at h3
    refine ⟨j, (G.canon_one h0 hj (by omega)).1 h3, List.mem_map.2 ⟨v.toNat - 1, List.mem_range.2 (by omega), ?_⟩⟩
    rw [e]
    congr 1
    omega
  · rintro ⟨j, hj, hw⟩
    have hj2 := List.mem_range.1 (List.mem_filter.1 hj).1
    obtain ⟨v, hv, rfl⟩ := List.mem_map.1 hw
    have hv := List.mem_range.1 hv
    refine ⟨⟨⟨one_len _ _ _, fun x hx => ?_⟩, (G.canon_one h0 hj2 (by omega)).2 hj⟩, one_num hj2 (by omega)⟩
    rcases one_mem hx with rfl | rfl <;> omega
end Go.Proofs.Ytdibmjijpdliaaa.Perms
/- The group that some permutations make, as the reference makes it. -/
set_option linter.unusedVariables false
namespace Go.Proofs.Ytdibmjijpdliaaa
open Go.RowKit

set_option maxHeartbeats 4000000 in
theorem GroupOf_s {vg : Value} {gens : List (List Int)} {n : Int} {w : World} {Q : Ending → World → Prop} (hg : RowsAt w vg gens)
    (hQ : ∀ v w', OwnRows w' w.heap.size w'.heap.size v (Perms.gofW n gens) → Below w.heap.size w w' → Q (.returned (.tuple #[v, .bool (Perms.gofB n gens)])) w') :
    Calls Try.prog 88 #[.int .i64 n, vg] w Q := by
  have H := Lib.hid hQ; clear hQ
  have hg0 := Lib.hid hg
  have bad : ∀ w', Below w.heap.size w w' → Perms.gofO n gens = none → Q (.returned (.tuple #[.slice none 0 0, .bool false])) w' := fun w' hb hf => by
    have := H.out (.slice none 0 0) w' (by unfold Perms.gofW; rw [hf]; exact OwnRows.nil _ _ _) hb
    unfold Perms.gofB at this
    rw [hf] at this; exact this
  have good : ∀ w' v q, Below w.heap.size w w' → Perms.gofO n gens = some q → OwnRows w' w.heap.size w'.heap.size v (Perms.isort q) → Q (.returned (.tuple #[v, .bool true])) w' := fun w' v q hb hf ho => by
    have := H.out v w' (by unfold Perms.gofW; rw [hf]; exact ho) hb
    unfold Perms.gofB at this
    rw [hf] at this; exact this
  have bad' := Lib.hid bad
  have good' := Lib.hid good
  clear bad good
  obtain ⟨aa, ca, rfl, la, lca, cca⟩ := hg.form
  clear hg
  by_cases hn : 1 ≤ n ∧ n ≤ 10
  rotate_left
  · have hd : Hid (decide (1 ≤ n ∧ n ≤ 10) = false) := Lib.hid (decide_eq_false hn)
    have e : Hid (Perms.gofO n gens = none) := Lib.hid (by unfold Perms.gofO Perms.gokB; rw [hd.out]; rfl)
    clear hn
    go_enter Try.func88, Try.ntmps88
    go_wp2_with (go_at_call 103; refine l01In_c ?_; rw [hd.out])
    all_goals exact bad'.out _ (Below.refl _ _) e.out
  have hd : Hid (decide (1 ≤ n ∧ n ≤ 10) = true) := Lib.hid (decide_eq_true hn)
  obtain ⟨hn1, hn2⟩ := hn
  obtain ⟨n0, rfl⟩ : ∃ n0 : Nat, n = n0 := ⟨n.toNat, by omega⟩
  go_enter Try.func88, Try.ntmps88
  go_wp2_with (go_at_call 103; refine l01In_c ?_; rw [hd.out])
  have hgl63 := Lib.hid la
  go_loopg [19] gens.length (fun g i wr => Below w.heap.size w wr ∧ ∃ j : Nat, i = .int .i64 j ∧ Hid ((gens.take j).all (fun p => Perms.permB p && decide ((p.length : Int) = n0)) = true) ∧ j + g ≤ gens.length ∧ gens.length ≤ j + g)
  case atStart => exact ⟨Below.refl _ _, 0, rfl, Lib.hid rfl, by omega, by omega⟩
  case round =>
    obtain ⟨hb, j, rfl, hok, hk1, hk2⟩ := hrel
    by_cases hj : j < gens.length
    · obtain ⟨b, off, u, p, rfl, hx, hcw, hi⟩ := hg0.out.cell hj
      obtain ⟨au, cu, rfl, lp, _, _⟩ := hi.form
      have i1 : (j : Int) < gens.length := by omega
      have hc := below_cells hb _ _ hcw
      have hi' := Lib.hid (hi.below hb)
      have hst : Hid ((gens.take (j + 1)).all (fun p => Perms.permB p && decide ((p.length : Int) = n0)) = (Perms.permB p && decide ((p.length : Int) = n0))) := Lib.hid (by
        rw [List.take_add_one, hx.out, List.all_append, hok.out]; simp)
      have hbadp : Hid ((Perms.permB p && decide ((p.length : Int) = n0)) = false → Perms.gofO n0 gens = none) := Lib.hid (fun h => by
        unfold Perms.gofO
        rw [if_neg]
        intro h2
        have := (Perms.gok_parts h2).2.2 p (List.mem_of_getElem? hx.out)
        rw [this.1, decide_eq_true this.2] at h
        cases h)
      clear hi
      go_wp2_with fail
      refine PermOk_s hi'.out ?_
      intro w2 b2
      have hbb : Below w.heap.size w w2 := hb.trans (b2.mono hb.size)
      cases hpb : Perms.permB p with
      | false =>
        have hf := Lib.hid (hbadp.out (by rw [hpb]; rfl))
        clear hpb
        go_wp2_with fail
        exact bad'.out _ hbb hf.out
      | true =>
        by_cases hln : (p.length : Int) = n0
        · have hs2 : Hid ((gens.take (j + 1)).all (fun p => Perms.permB p && decide ((p.length : Int) = n0)) = true) := Lib.hid (by rw [hst.out, hpb, decide_eq_true hln]; rfl)
          have hne : ((p.length : Int) != n0) = false := by rw [hln]; simp
          clear hpb hln
          go_wp2_with fail
          go_roundg (gk - 1)
          case measure => omega
          case rel => exact ⟨hbb, j + 1, by go_num, hs2, by omega, by omega⟩
        · have hf := Lib.hid (hbadp.out (by rw [hpb, decide_eq_false hln]; rfl))
          have hne : ((p.length : Int) != n0) = true := by simpa using hln
          clear hpb hln
          go_wp2_with fail
          exact bad'.out _ hbb hf.out
    · have hgok : Perms.gokB n0 gens = true := by
        have h := hok.out
        rw [List.take_of_length_le (by omega)] at h
        unfold Perms.gokB
        rw [h, decide_eq_true (by omega)]; rfl
      have hgo : Hid (Perms.gofO n0 gens = Perms.bfs gens 121 0 [Perms.iota n0]) := Lib.hid (by unfold Perms.gofO; rw [if_pos hgok, Int.toNat_natCast])
      have hgr := Lib.hid (Perms.gok_inR hgok)
      have hg1 := Lib.hid (hg0.out.below hb)
      clear hgok hok
      go_wp2_with fail
      refine IdentityPerm_s (by omega) (by omega) ?_
      intro v1 w1 o1 b1
      obtain ⟨a1, c1, rfl, _, _, _⟩ := Own.form o1
      have bw1 := hb.trans (b1.mono hb.size)
      have hb1s := b1.size
      have q1 := own_rows_one (OwnInts.mono o1 hb.size) bw1.size
      have ba1 := below_alloc w1 (.cells #[.slice a1 (ints (Perms.iota n0)).length c1] 25)
      have bwa1 := bw1.trans (ba1.mono bw1.size)
      have q1' := Lib.hid q1
      clear q1
      go_wp2_with fail
      refine IdentityPerm_s (by omega) (by omega) ?_
      intro v2 w2 o2 b2
      obtain ⟨a2, c2, rfl, _, _, _⟩ := Own.form o2
      have bw2 := bwa1.trans (b2.mono bwa1.size)
      have q2 := q1'.out.below b2
      have r2 := own_rows_one (OwnInts.mono o2 bwa1.size) bw2.size
      have ba2 := below_alloc w2 (.cells #[.slice a2 (ints (Perms.iota n0)).length c2] 25)
      have bwa2 := bw2.trans (ba2.mono bw2.size)
      have q3 := q2.below ba2
      obtain ⟨us0, g0o, _, g0r⟩ := (q3.tight).parts
      obtain ⟨uq0, p0o, _, p0r⟩ := (r2.tight).parts
      have p0v := p0r.vals
      have hgw2 := Lib.hid (((hg1.out.below b1).below ba1).below b2 |>.below ba2)
      have g0r' : Hid (Rows (w2.alloc (.cells #[.slice a2 (ints (Perms.iota n0)).length c2] 25)) w.heap.size _ us0 (Perms.isort [Perms.iota n0])) := Lib.hid g0r
      have p0v' := Lib.hid p0v
      have hinv := Lib.hid (Perms.GofInv.start (n := n0))
      clear q2 q3 r2 g0r p0r p0v q1'
      go_wp2_with fail
      go_loopg [8, 9, 10] 120 (fun gg u8 u9 u10 wr => ∃ (a : Nat) (q : List (List Int)) (us uq : List Value), u10 = .int .i64 a ∧ Own wr w.heap.size 25 u8 us ∧ Hid (Rows wr w.heap.size wr.heap.size us (Perms.isort q)) ∧ Own wr w.heap.size 25 u9 uq ∧ Hid (Vals wr w.heap.size uq q) ∧ Hid (Perms.GofInv n0 q) ∧ Hid (Perms.gofO n0 gens = Perms.bfs gens (gg + 1) a q) ∧ Below w.heap.size w wr ∧ Hid (RowsAt wr (.slice aa gens.length ca) gens) ∧ a ≤ q.length ∧ a + gg = 120)
      case atStart => exact ⟨0, [Perms.iota n0], us0, uq0, rfl, g0o, g0r', p0o, p0v', hinv, hgo, bwa2, hgw2, by simp, rfl⟩
      case round =>
        obtain ⟨a, q, us, uq, rfl, og, rg, oq, vq, inv, hbf, bwr, hgr3, ha1, ha2⟩ := hrel
        obtain ⟨gk1, hgk1⟩ : ∃ g, g = gk := ⟨_, rfl⟩
        obtain ⟨a8, c8, rfl, _, _, _⟩ := Own.form og
        obtain ⟨a9, c9, rfl, _, _, _⟩ := Own.form oq
        have hql := inv.out.le
        have huql : uq.length ≤ q.length ∧ q.length ≤ uq.length := by have := vq.out.1; omega
        by_cases ha : a < q.length
        · have haI : (a : Int) < uq.length := by omega
          obtain ⟨p, hp0⟩ : ∃ p, q[a]? = some p := ⟨_, List.getElem?_eq_getElem ha⟩
          have hp := Lib.hid hp0
          have hgk : gk = gk1 - 1 + 1 := by omega
          have hrow : Hid (Perms.gofO n0 gens = (Perms.rowTo gens p q gens.length).bind (Perms.bfs gens (gk1 - 1 + 1) (a + 1))) := Lib.hid (by
            rw [hbf.out, Perms.bfs_row hp0, ← hgk])
          clear hp0
          go_wp2_with fail
          have hst0 : Hid (Perms.rowTo gens p q 0 = some q) := Lib.hid rfl
          go_loopg [8, 9, 47] gens.length (fun gg u8 u9 u47 wr2 => ∃ (t : Nat) (cur : List (List Int)) (us uq : List Value), u47 = .int .i64 t ∧ Own wr2 w.heap.size 25 u8 us ∧ Hid (Rows wr2 w.heap.size wr2.heap.size us (Perms.isort cur)) ∧ Own wr2 w.heap.size 25 u9 uq ∧ Hid (Vals wr2 w.heap.size uq cur) ∧ Hid (Perms.GofInv n0 cur) ∧ Hid (Perms.rowTo gens p q t = some cur) ∧ Hid (cur[a]? = some p) ∧ Below w.heap.size w wr2 ∧ Hid (RowsAt wr2 (.slice aa gens.length ca) gens) ∧ t + gg ≤ gens.length ∧ gens.length ≤ t + gg)
          case atStart => exact ⟨0, q, us, uq, rfl, og, rg, oq, vq, inv, hst0, hp, bwr, hgr3, by omega, by omega⟩
          case round =>
            obtain ⟨t, cur, us, uq, rfl, og, rg, oq, vq, inv, hrt, hpa, bwr, hgr3, ht1, ht2⟩ := hrel
            obtain ⟨a8, c8, rfl, _, _, _⟩ := Own.form og
            obtain ⟨a9, c9, rfl, _, _, _⟩ := Own.form oq
            have hql := inv.out.le
            have huql : uq.length ≤ cur.length ∧ cur.length ≤ uq.length := by have := vq.out.1; omega
            have husl : us.length ≤ cur.length ∧ cur.length ≤ us.length := by have := rg.out.1; rw [Perms.isort_len] at this; omega
            have hac : a < cur.length := (List.getElem?_eq_some_iff.1 hpa.out).1
            by_cases ht : t < gens.length
            · have htI : (t : Int) < gens.length := by omega
              have haI2 : (a : Int) < uq.length := by omega
              obtain ⟨b7, f7, ug, s, rfl, hs, hcs, hus⟩ := hgr3.out.cell ht
              obtain ⟨ag, cg, rfl, _, _, _⟩ := hus.form
              have hus' := Lib.hid hus
              obtain ⟨up, hup, hoip⟩ := vq.out.2 a p hpa.out
              obtain ⟨ap, cp, rfl, _, _, _⟩ := Own.form hoip
              obtain ⟨g9, rfl, _, _⟩ := Own.head oq (by omega)
              have hcp := Own.cell oq hup
              have hip := Lib.hid (OwnInts.at hoip)
              have hpR := inv.out.rg p (List.mem_of_getElem? hpa.out)
              have hsR := hgr.out s (List.mem_of_getElem? hs.out)
              have hcR := Lib.hid (Perms.inR_comp hpR hsR)
              have hpl : p.length ≤ 1048576 := by rw [hpR.1]; omega
              have hpr : Hid (∀ x ∈ p, 0 ≤ x ∧ x < s.length) := Lib.hid (by rw [hsR.1]; exact hpR.2)
              have hstep : Hid (Perms.rowTo gens p q (t + 1) = Perms.stepG (some cur) (Perms.comp p s)) := Lib.hid (by rw [Perms.rowTo_step hs.out, hrt.out])
              clear hus hup hpR hsR
              go_wp2_with fail
              refine compose_s hip.out hus'.out hpl hpr.out ?_
              intro v3 w3 o3 b3
              obtain ⟨a3, c3, rfl, _, _, _⟩ := Own.form o3
              have bw3 := bwr.trans (b3.mono bwr.size)
              have og3 := Own.below og b3
              have rg3 := Lib.hid (rg.out.below b3)
              have oq3 := Own.below oq b3
              have vq3 := Lib.hid (vq.out.below b3)
              have hgr33 := Lib.hid (hgr3.out.below b3)
              have hgat := Lib.hid ((rg3.out.vals).at og3)
              have o3' := Lib.hid o3
              obtain ⟨c, hc⟩ : ∃ c, c = Perms.comp p s := ⟨_, rfl⟩
              rw [← hc] at o3 o3' hcR hstep ⊢
              have hcn := hcR.out.1
              have hln : Hid (∀ x ∈ Perms.isort cur, x.length = c.length) := Lib.hid (fun x hx => by rw [(inv.out.rg x (Perms.isort_mem.1 hx)).1, hcn])
              have hasc := Lib.hid (Perms.isort_asc inv.out.nd)
              have hisl : (Perms.isort cur).length ≤ 1048576 := by rw [Perms.isort_len]; omega
              have hisl' := Lib.hid hisl
              clear hc hisl o3
              by_cases hm : c ∈ cur
              · have hix : Hid (0 ≤ Perms.idx (Perms.isort cur) c) := Lib.hid (by unfold Perms.idx; rw [if_pos (Perms.isort_mem.2 hm)]; omega)
                have hst2 : Hid (Perms.rowTo gens p q (t + 1) = some cur) := Lib.hid (by rw [hstep.out]; simp [Perms.stepG, hm])
                clear hm hcn
                go_wp2_with fail
                refine find_s hgat.out (OwnInts.at o3'.out) hasc.out hisl'.out hln.out ?_
                intro w4 d4
                have hix2 := hix.out
                obtain ⟨ix, hixe⟩ : ∃ ix, ix = Perms.idx (Perms.isort cur) c := ⟨_, rfl⟩
                rw [← hixe] at hix2 ⊢
                have og4 := Own.drawn og3 d4
                have rg4 := Lib.hid (rg3.out.drawn d4)
                have oq4 := Own.drawn oq3 d4
                have vq4 := Lib.hid (vq3.out.drawn d4)
                have hgr4 := Lib.hid (hgr33.out.drawn d4)
                have bw4 := bw3.trans (d4.below _)
                clear hixe
                go_wp2_with fail
                go_roundg (gk - 1)
                case measure => omega
                case rel => exact ⟨t + 1, cur, us, uq, by go_num, og4, Lib.hid (rg4.out.tight), oq4, vq4, inv, hst2, hpa, bw4, hgr4, by omega, by omega⟩
              · have hix : Hid (Perms.idx (Perms.isort cur) c = -1) := Lib.hid (by unfold Perms.idx; rw [if_neg (fun h => hm (Perms.isort_mem.1 h))])
                by_cases h120 : cur.length = 120
                · have hst2 : Hid (Perms.rowTo gens p q (t + 1) = none) := Lib.hid (by rw [hstep.out]; simp [Perms.stepG, hm, h120])
                  have hno : Hid (Perms.gofO n0 gens = none) := Lib.hid (by rw [hrow.out, Perms.rowTo_none hst2.out]; rfl)
                  have hus120 : (us.length : Int) = 120 := by omega
                  clear hm h120 hcn
                  go_wp2_with fail
                  refine find_s hgat.out (OwnInts.at o3'.out) hasc.out hisl'.out hln.out ?_
                  intro w4 d4
                  rw [hix.out]
                  have bw4 := bw3.trans (d4.below _)
                  go_wp2_with fail
                  exact bad'.out _ bw4 hno.out
                · have hst2 : Hid (Perms.rowTo gens p q (t + 1) = some (cur ++ [c])) := Lib.hid (by rw [hstep.out]; simp [Perms.stepG, hm, h120])
                  have inv2 := Lib.hid (inv.out.add hcR.out hm h120)
                  have hus120 : ((us.length : Int) == 120) = false := by
                    rw [beq_eq_false_iff_ne]; omega
                  have hpa2 : Hid ((cur ++ [c])[a]? = some p) := Lib.hid (by rw [List.getElem?_append_left hac]; exact hpa.out)
                  clear hm hcn
                  go_wp2_with fail
                  refine find_s hgat.out (OwnInts.at o3'.out) hasc.out hisl'.out hln.out ?_
                  intro w4 d4
                  rw [hix.out]
                  have og4 := Own.drawn og3 d4
                  have rg4 := Lib.hid (rg3.out.drawn d4)
                  have oq4 := Own.drawn oq3 d4
                  have vq4 := Lib.hid (vq3.out.drawn d4)
                  have hgr4 := Lib.hid (hgr33.out.drawn d4)
                  have bw4 := bw3.trans (d4.below _)
                  have o34 := Lib.hid (OwnInts.drawn o3'.out d4)
                  have hil : Hid ((Perms.isort cur).length ≤ 1024) := Lib.hid (by rw [Perms.isort_len]; omega)
                  have hln4 : Hid (∀ x ∈ Perms.isort cur, x.length = n0) := Lib.hid (fun x hx => (inv.out.rg x (Perms.isort_mem.1 hx)).1)
                  go_wp2_with fail
                  refine l03Put_c (n := n0) (Own.row og4) rg4.out.1 rg4.out.vals.ints (OwnInts.at o34.out) hil.out hln4.out hcR.out.1 ?_
                  intro v5 w5 i hi hlow hhi o5 b5
                  have hisn : Perms.isort (cur ++ [c]) = ((Perms.isort cur).take i ++ [c]) ++ (Perms.isort cur).drop i := by
                    rw [Perms.isort_snoc, Perms.ins_at hi hlow hhi, List.append_assoc, List.singleton_append]
                  have b3s := b3.size
                  have d4s := (d4.below 0).size
                  have rg5 := (rg4.out.below b5).ins (OwnInts.mono (OwnInts.below o34.out b5) bwr.size) (fun b hb => (Own.lt o3'.out hb).1) hi
                  rw [← hisn] at rg5
                  have rg5' := Lib.hid rg5
                  obtain ⟨us5, hus5⟩ : ∃ us5, us5 = ((us.take i ++ [.slice a3 (ints c).length c3]) ++ us.drop i) := ⟨_, rfl⟩
                  rw [← hus5] at o5 rg5'
                  obtain ⟨a5, c5, rfl, _, _, _⟩ := Own.form o5
                  have oq5 := Own.below oq4 b5
                  have vq5 := Lib.hid (vq4.out.below b5)
                  have hgr5 := Lib.hid (hgr4.out.below b5)
                  have bw5 := bw4.trans (b5.mono bw4.size)
                  have o35 := Lib.hid (OwnInts.below o34.out b5)
                  clear rg5 hus5 hisn hlow hhi hi
                  have ba5 := below_alloc w5 (.cells #[.slice a3 (ints c).length c3] 25)
                  have oq6 := Own.below oq5 ba5
                  have hr6 := row_one w5 (.slice a3 (ints c).length c3) 25
                  have hone6 : Hid (∀ y ∈ [Value.slice a3 (ints c).length c3], y.oneCell' = true) := Lib.hid (fun y hy => by rw [List.mem_singleton] at hy; rw [hy]; rfl)
                  have bw6 := bw5.trans (ba5.mono bw5.size)
                  go_wp2_with (at_builtin; refine app_outer rfl (.tmp 67) (.tmp 69) rfl rfl oq6 rfl hr6 hone6.out (by show uq.length + 1 ≤ 1099511627776; omega) bw6.size ?_; intro v7 w7 o7 g7)
                  have bw7 := bw6.grown g7 bw6.size (fun b hb => (Own.lt oq6 hb).1)
                  have og7 := (Own.grown (Own.below o5 ba5) g7 (own_ne' oq4 o5 (Nat.le_refl _))).mono bw4.size
                  have rg7 := Lib.hid (((rg5'.out.below ba5).outer oq6 g7).tight)
                  have vq7 := Lib.hid (((vq5.out.below ba5).push (OwnInts.mono (OwnInts.below o35.out ba5) bwr.size)).outer oq6 g7)
                  have hgr7 := Lib.hid (hg0.out.below bw7)
                  go_roundg (gk - 1)
                  case measure => omega
                  case rel => exact ⟨t + 1, cur ++ [c], us5, uq ++ [.slice a3 (ints c).length c3], by go_num, og7, rg7, o7, vq7, inv2, hst2, hpa2, bw7, hgr7, by omega, by omega⟩
            · have hte : t = gens.length := by omega
              have hbf2 : Hid (Perms.gofO n0 gens = Perms.bfs gens (gk1 - 1 + 1) (a + 1) cur) := Lib.hid (by rw [hrow.out, ← hte, hrt.out]; rfl)
              go_wp2_with fail
              go_roundg (gk1 - 1)
              case measure => omega
              case rel => exact ⟨a + 1, cur, us, uq, by go_num, og, rg, oq, vq, inv, hbf2, bwr, hgr3, by omega, by omega⟩
        · obtain rfl : a = q.length := by omega
          have hfin : Hid (Perms.gofO n0 gens = some q) := Lib.hid (by rw [hbf.out, Perms.bfs_end (Nat.le_refl _)])
          have how := (rg.out.whole og (Own.inBlk og))
          have h3 := Lib.hid (good'.out wr _ q bwr hfin.out how)
          go_wp2_with fail
          exact h3.out
end Go.Proofs.Ytdibmjijpdliaaa
/- What some permutations make is a group. No program in sight. -/
set_option linter.unusedVariables false
namespace Go.Proofs.Ytdibmjijpdliaaa.Perms

theorem okTo_of {p : List Int} (hn : p.Nodup) (hr : ∀ x ∈ p, 0 ≤ x ∧ x < p.length) : ∀ j, j ≤ p.length → okTo p j = true
  | 0, _ => rfl
  | j + 1, hj => by
    have hx : p[j]? = some p[j] := List.getElem?_eq_getElem (by omega)
    have h1 := hr _ (List.getElem_mem (show j < p.length by omega))
    simp only [okTo, hx]
    rw [okTo_of hn hr j (by omega), decide_eq_true h1.1, decide_eq_true h1.2]
    simp only [Bool.true_and, Bool.not_eq_true', decide_eq_false_iff_not]
    intro hm
    obtain ⟨i, hi, e⟩ := List.mem_iff_getElem.1 hm
    rw [List.length_take] at hi
    rw [List.getElem_take] at e
    have := nodup_inj hn (i := i) (j := j) (x := p[j]) (by rw [List.getElem?_eq_getElem (by omega), e]) hx
    omega
theorem permB_of {p : List Int} (h1 : 1 ≤ p.length) (h2 : p.length ≤ 10) (hn : p.Nodup) (hr : ∀ x ∈ p, 0 ≤ x ∧ x < p.length) : permB p = true := by
  unfold permB
  rw [okTo_of hn hr _ (Nat.le_refl _), decide_eq_true ⟨h1, h2⟩]
  rfl
theorem permB_comp {p q : List Int} (hp : permB p = true) (hq : permB q = true) (hl : p.length = q.length) : permB (comp p q) = true := by
  have l1 := permB_len hp
  have hin : inR q.length p := ⟨hl, fun x hx => by rw [← hl]; exact permB_range hp x hx⟩
  have hc := inR_comp hin (permB_inR hq)
  refine permB_of (by rw [comp_len]; omega) (by rw [comp_len]; omega) ?_ (by rw [hc.1]; exact hc.2)
  unfold comp
  refine nodup_map_on (permB_nodup hp) fun x hx y hy e => ?_
  have rx := hin.2 x hx
  have ry := hin.2 y hy
  have gx : q[x.toNat]? = some (q.getD x.toNat 0) := by simp [List.getD, List.getElem?_eq_getElem (show x.toNat < q.length by omega)]
  have gy : q[y.toNat]? = some (q.getD y.toNat 0) := by simp [List.getD, List.getElem?_eq_getElem (show y.toNat < q.length by omega)]
  rw [← e] at gy
  have := nodup_inj (permB_nodup hq) gx gy
  omega
theorem comp_assoc {n : Nat} {p q r : List Int} (hp : inR n p) (hq : inR n q) : comp (comp p q) r = comp p (comp q r) := by
  unfold comp
  rw [List.map_map]
  refine List.map_congr_left fun x hx => ?_
  have rx := hp.2 x hx
  have hl : x.toNat < q.length := by rw [hq.1]; omega
  simp [List.getD, hl]
theorem comp_iota {n : Nat} {p : List Int} (hp : inR n p) : comp p (iota n) = p := by
  unfold comp
  conv => rhs; rw [← List.map_id p]
  refine List.map_congr_left fun x hx => ?_
  have rx := hp.2 x hx
  have : (iota n)[x.toNat]? = some (x.toNat : Int) := iota_get (by omega)
  simp only [List.getD, this, Option.getD_some, id]
  omega
theorem rowTo_all {gens : List (List Int)} {p : List Int} {out : List (List Int)} : ∀ t out', t ≤ gens.length → rowTo gens p out t = some out' →
    (∃ more, out' = out ++ more ∧ ∀ q ∈ more, ∃ s ∈ gens, q = comp p s) ∧ ∀ i s, i < t → gens[i]? = some s → comp p s ∈ out'
  | 0, out', _, h => by
    simp only [rowTo, List.take_zero, List.foldl_nil] at h
    cases h
    exact ⟨⟨[], by simp, fun q hq => by cases hq⟩, fun i s hi => by omega⟩
  | t + 1, out', ht, h => by
    have hs : gens[t]? = some gens[t] := List.getElem?_eq_getElem (by omega)
    rw [rowTo_step hs] at h
    cases hr : rowTo gens p out t with
    | none => rw [hr] at h; cases h
    | some o =>
      rw [hr] at h
      obtain ⟨⟨more, e, hm⟩, hi⟩ := rowTo_all t o (by omega) hr
      simp only [stepG, Option.bind_some] at h
      have last : ∀ i s, i < t + 1 → gens[i]? = some s → i < t ∨ s = gens[t] := fun i s hi hg => by
        by_cases e : i = t
        · subst e; rw [hs] at hg; exact .inr (Option.some.inj hg).symm
        · exact .inl (by omega)
      split at h
      · rename_i hin
        cases h
        refine ⟨⟨more, e, hm⟩, fun i s hit hg => ?_⟩
        rcases last i s hit hg with h1 | h1
        · exact hi i s h1 hg
        · rw [h1]; exact hin
      · split at h
        · cases h
        · cases h
          refine ⟨⟨more ++ [comp p gens[t]], by rw [e, List.append_assoc], fun q hq => ?_⟩, fun i s hit hg => ?_⟩
          · rcases List.mem_append.1 hq with hq | hq
            · exact hm q hq
            · exact ⟨_, List.getElem_mem (show t < gens.length by omega), List.mem_singleton.1 hq⟩
          · rcases last i s hit hg with h1 | h1
            · exact List.mem_append_left _ (hi i s h1 hg)
            · rw [h1]; simp
theorem bfs_all {gens : List (List Int)} {S : List Int → Prop} (hS : ∀ p, S p → ∀ s ∈ gens, S (comp p s)) : ∀ f a out out', bfs gens f a out = some out' → (∀ p ∈ out, S p) → ∀ p ∈ out', S p
  | 0, a, out, out', h, h0 => by
    simp only [bfs] at h; cases h; exact h0
  | f + 1, a, out, out', h, h0 => by
    simp only [bfs] at h
    split at h
    · cases h; exact h0
    · rename_i p hp
      cases hr : rowTo gens p out gens.length with
      | none => rw [hr] at h; cases h
      | some o =>
        rw [hr] at h
        obtain ⟨⟨more, e, hm⟩, _⟩ := rowTo_all _ o (Nat.le_refl _) hr
        refine bfs_all hS f (a + 1) o out' h fun q hq => ?_
        rw [e] at hq
        rcases List.mem_append.1 hq with hq | hq
        · exact h0 q hq
        · obtain ⟨s, hs, rfl⟩ := hm q hq
          exact hS p (h0 p (List.mem_of_getElem? hp)) s hs
theorem stepG_inv {n : Nat} {out out' : List (List Int)} {q : List Int} (h : GofInv n out) (hq : inR n q) (e : stepG (some out) q = some out') : GofInv n out' := by
  simp only [stepG, Option.bind_some] at e
  split at e
  · cases e; exact h
  · rename_i h1
    split at e
    · cases e
    · rename_i h2
      cases e
      exact h.add hq h1 h2
theorem rowTo_inv {n : Nat} {gens : List (List Int)} (hg : ∀ s ∈ gens, inR n s) {p : List Int} (hp : inR n p) {out : List (List Int)} (h : GofInv n out) : ∀ t out', t ≤ gens.length → rowTo gens p out t = some out' → GofInv n out'
  | 0, out', _, e => by
    simp only [rowTo, List.take_zero, List.foldl_nil] at e
    cases e; exact h
  | t + 1, out', ht, e => by
    have hs : gens[t]? = some gens[t] := List.getElem?_eq_getElem (by omega)
    rw [rowTo_step hs] at e
    cases hr : rowTo gens p out t with
    | none => rw [hr] at e; cases e
    | some o =>
      rw [hr] at e
      exact stepG_inv (rowTo_inv hg hp h t o (by omega) hr) (inR_comp hp (hg _ (List.getElem_mem (show t < gens.length by omega)))) e
theorem bfs_closed {n : Nat} {gens : List (List Int)} (hg : ∀ s ∈ gens, inR n s) : ∀ f a out out', f + a = 121 → GofInv n out → (∀ i p, i < a → out[i]? = some p → ∀ s ∈ gens, comp p s ∈ out) → bfs gens f a out = some out' →
    GofInv n out' ∧ (∀ p ∈ out, p ∈ out') ∧ ∀ p ∈ out', ∀ s ∈ gens, comp p s ∈ out'
  | 0, a, out, out', hf, hi, hc, h => by
    simp only [bfs] at h; cases h
    refine ⟨hi, fun p hp => hp, fun p hp s hs => ?_⟩
    obtain ⟨i, hil, e⟩ := List.mem_iff_getElem.1 hp
    exact hc i p (by have := hi.le; omega) (by rw [List.getElem?_eq_getElem hil, e]) s hs
  | f + 1, a, out, out', hf, hi, hc, h => by
    simp only [bfs] at h
    split at h
    · rename_i hn
      cases h
      have hn := List.getElem?_eq_none_iff.1 hn
      refine ⟨hi, fun p hp => hp, fun p hp s hs => ?_⟩
      obtain ⟨i, hil, e⟩ := List.mem_iff_getElem.1 hp
      exact hc i p (by omega) (by rw [List.getElem?_eq_getElem hil, e]) s hs
    · rename_i p hp
      have hpr := hi.rg p (List.mem_of_getElem? hp)
      cases hr : rowTo gens p out gens.length with
      | none => rw [hr] at h; cases h
      | some o =>
        rw [hr] at h
        obtain ⟨⟨more, e, hm⟩, hall⟩ := rowTo_all _ o (Nat.le_refl _) hr
        have hsub : ∀ q ∈ out, q ∈ o := fun q hq => by rw [e]; exact List.mem_append_left _ hq
        obtain ⟨h1, h2, h3⟩ := bfs_closed hg f (a + 1) o out' (by omega) (rowTo_inv hg hpr hi _ o (Nat.le_refl _) hr) (fun i q hia hq s hs => by
          have hlt : i < out.length := by
            have := (List.getElem?_eq_some_iff.1 hp).1
            omega
          have hq' : out[i]? = some q := by rw [e, List.getElem?_append_left hlt] at hq; exact hq
          by_cases ei : i = a
          · subst ei
            rw [hp] at hq'
            cases hq'
            obtain ⟨j, hj, ej⟩ := List.mem_iff_getElem.1 hs
            exact hall j s hj (by rw [List.getElem?_eq_getElem hj, ej])
          · exact hsub _ (hc i q (by omega) hq' s hs)) h
        exact ⟨h1, fun q hq => h2 q (hsub q hq), h3⟩
/-- What some permutations make is a group. -/
theorem gof_grp {n : Nat} {gens : List (List Int)} (h : gofB n gens = true) : grpB (gofW n gens) = true ∧ (row0 (gofW n gens)).length = n ∧ 1 ≤ n ∧ n ≤ 10 := by
  unfold gofB at h
  cases ho : gofO n gens with
  | none => rw [ho] at h; cases h
  | some out =>
    have hw : gofW n gens = isort out := by unfold gofW; rw [ho]; rfl
    unfold gofO at ho
    split at ho
    rotate_left
    · cases ho
    rename_i hk
    obtain ⟨k1, k2, k3⟩ := gok_parts hk
    have hgR := gok_inR hk
    rw [Int.toNat_natCast] at ho
    obtain ⟨h1, h2, h3⟩ := bfs_closed hgR 121 0 [iota n] out rfl GofInv.start (fun i p hi => by omega) ho
    have hio : iota n ∈ out := h2 _ (List.mem_singleton.2 rfl)
    -- each element is a permutation
    have hperm : ∀ p ∈ out, permB p = true ∧ p.length = n := by
      refine bfs_all (S := fun p => permB p = true ∧ p.length = n) (fun p hp s hs => ?_) 121 0 [iota n] out ho fun p hp => ?_
      · obtain ⟨s1, s2⟩ := k3 s hs
        have hl : p.length = s.length := by have := hp.2; omega
        exact ⟨permB_comp hp.1 s1 hl, by rw [comp_len]; exact hp.2⟩
      · rw [List.mem_singleton.1 hp]
        refine ⟨permB_of (by rw [iota_len]; omega) (by rw [iota_len]; omega) ?_ (by rw [iota_len]; exact (inR_iota n).2), iota_len n⟩
        unfold iota
        exact nodup_map_on List.nodup_range fun x _ y _ e => by omega
    -- products stay
    have hmul : ∀ q ∈ out, ∀ p ∈ out, comp p q ∈ out := by
      have := bfs_all (gens := gens) (S := fun q => inR n q ∧ ∀ p ∈ out, comp p q ∈ out) (fun q hq s hs => ⟨inR_comp hq.1 (hgR s hs), fun p hp => by
        rw [← comp_assoc (h1.rg p hp) hq.1]
        exact h3 _ (hq.2 p hp) s hs⟩) 121 0 [iota n] out ho fun p hp => by
          rw [List.mem_singleton.1 hp]
          exact ⟨inR_iota n, fun q hq => by rw [comp_iota (h1.rg q hq)]; exact hq⟩
      exact fun q hq => (this q hq).2
    have hmem : ∀ p, p ∈ gofW n gens ↔ p ∈ out := fun p => by rw [hw]; exact isort_mem
    have hlen : (gofW n gens).length = out.length := by rw [hw]; exact (isort_perm out).length_eq
    have hpos : 0 < (gofW n gens).length := List.length_pos_of_mem ((hmem _).2 hio)
    have hr : (row0 (gofW n gens)).length = n := by
      unfold row0 List.getD
      rw [List.getElem?_eq_getElem hpos]
      exact (hperm _ ((hmem _).1 (List.getElem_mem hpos))).2
    have hasc : Asc (gofW n gens) := by rw [hw]; exact isort_asc h1.nd
    refine ⟨?_, hr, by omega, by omega⟩
    unfold grpB
    rw [rowsTo_of (fun p hp => by rw [hr]; exact hperm p ((hmem p).1 hp)) hasc _ (Nat.le_refl _), closed_ok fun p hp q hq => (hmem _).2 (hmul q ((hmem q).1 hq) p ((hmem p).1 hp)), decide_eq_true ⟨hpos, by rw [hlen]; exact h1.le⟩]
    rfl
theorem gof_one_all : ∀ n ∈ List.range 7, ∀ p ∈ injW n n, n = 0 ∨ gofB n [p] = true := by decide +kernel
/-- One permutation of at most six points always makes one. -/
theorem gof_one {n : Nat} {p : List Int} (h1 : 1 ≤ n) (hn : n ≤ 6) (hp : permB p = true) (hl : p.length = n) : gofB n [p] = true := by
  have := injW_mem (permB_nodup hp) (permB_range hp) p.length (Nat.le_refl _)
  rw [List.take_length, hl] at this
  exact (gof_one_all n (List.mem_range.2 (by omega)) p this).resolve_left (by omega)
end Go.Proofs.Ytdibmjijpdliaaa.Perms
/- How many colorings of given contents a group leaves apart: the program's walk. -/
set_option linter.unusedVariables false
namespace Go.Proofs.Ytdibmjijpdliaaa
open Go.RowKit

set_option maxHeartbeats 800000 in
theorem contentsOk_i {vc : Value} {c : List Int} {d : Nat} {w : World} {Q : Ending → World → Prop} (hc : IntsAt w vc c) (hd : d ≤ 10)
    (hQ : Q (.returned (.bool (Perms.contsB c d))) w) :
    Calls Try.prog 65 #[vc, .int .i64 d] w Q := by
  have H := Lib.hid hQ; clear hQ
  have hc0 := Lib.hid hc
  obtain ⟨ac, cc, rfl, l1, l2, l3⟩ := hc.form
  clear hc
  by_cases hl : c.length ≤ 4
  rotate_left
  · have hf : Perms.contsB c d = false := by unfold Perms.contsB; rw [decide_eq_false hl]; rfl
    rw [hf] at H
    have hl2 : (4 : Int) < c.length := by omega
    clear hf hl
    go_enter Try.func65, Try.ntmps65
    go_wp2_with fail
    exact H.out
  go_enter Try.func65, Try.ntmps65
  go_wp2_with fail
  go_loopg [5, 13] c.length (fun gg u5 u13 wr => Hid (wr = w) ∧ ∃ (j : Nat), u13 = .int .i64 j ∧ u5 = .int .i64 (Perms.inSum (c.take j)) ∧ Hid (Perms.okC c j) ∧ j + gg ≤ c.length ∧ c.length ≤ j + gg)
  case atStart => exact ⟨Lib.hid rfl, 0, rfl, rfl, Lib.hid (fun x hx => by simp at hx), by omega, by omega⟩
  case round =>
    obtain ⟨hw, j, rfl, rfl, hok, hj1, hj2⟩ := hrel
    have hw := hw.out
    subst hw
    have hsm := Perms.okC_sum j hok.out
    by_cases hj : j < c.length
    · have hjI : (j : Int) < c.length := by omega
      obtain ⟨b7, f7, x, e7, hx, hcx⟩ := hc0.out.cell hj
      cases e7
      by_cases hx0 : 0 ≤ x ∧ x ≤ 10
      · obtain ⟨x0, x1⟩ := hx0
        have hst := Lib.hid (Perms.inSum_take hx.out)
        have hok2 := Lib.hid (Perms.okC_step hok.out hx.out ⟨x0, x1⟩)
        go_wp2_with fail
        go_roundg (gk - 1)
        case measure => omega
        case rel => exact ⟨Lib.hid rfl, j + 1, by go_num, by rw [hst.out], hok2, by omega, by omega⟩
      · have hf := Perms.conts_bad (n := d) hx.out hx0
        rw [hf] at H
        rcases Int.lt_or_le x 0 with h | h
        · clear hx0
          go_wp2_with fail
          exact H.out
        · have h2 : 10 < x := by omega
          clear hx0
          go_wp2_with fail
          exact H.out
    · obtain rfl : j = c.length := by omega
      have hd := Perms.okC_done (n := d) hl hok.out
      rw [hd] at H
      rw [List.take_length] at hsm ⊢
      obtain ⟨S, hS⟩ : ∃ S, S = Perms.inSum c := ⟨_, rfl⟩
      rw [← hS] at H hsm ⊢
      have h3 := Lib.hid (boolq' H.out (show (S == (d : Int)) = decide (S = d) from by rw [Bool.eq_iff_iff]; simp))
      clear hS hd
      go_wp2_with fail
      exact h3.out
set_option maxHeartbeats 800000 in
theorem CountFixed_i {vp vc : Value} {p c : List Int} {w : World} {Q : Ending → World → Prop} (hp : IntsAt w vp p) (hc : IntsAt w vc c)
    (hQ : ∀ w', Below w.heap.size w w' → Q (.returned (.int .i64 (Perms.fixO p c))) w') :
    Calls Try.prog 28 #[vp, vc] w Q := by
  have H := Lib.hid hQ; clear hQ
  have hp0 := Lib.hid hp
  have hc0 := Lib.hid hc
  obtain ⟨ap, cp, rfl, p1, p2, p3⟩ := hp.form
  obtain ⟨ac, cc, rfl, l1, l2, l3⟩ := hc.form
  clear hp hc
  cases hpb : Perms.permB p with
  | false =>
    have hf : Perms.fixO p c = 0 := by unfold Perms.fixO; rw [if_neg (by rw [hpb]; simp)]
    rw [hf] at H
    have hpb' := Lib.hid hpb
    clear hf hpb
    go_enter Try.func28, Try.ntmps28
    go_wp2_with fail
    refine PermOk_i hp0.out ?_
    intro w1 b1
    rw [hpb'.out]
    have h3 := Lib.hid (H.out w1 b1)
    go_wp2_with fail
    exact h3.out
  | true =>
    have hlen := Perms.permB_len hpb
    have hpb' := Lib.hid hpb
    cases hcb : Perms.contsB c p.length with
    | false =>
      have hf : Perms.fixO p c = 0 := by unfold Perms.fixO; rw [if_neg (by rw [hcb]; simp)]
      rw [hf] at H
      have hcb' := Lib.hid hcb
      clear hf hcb hpb
      go_enter Try.func28, Try.ntmps28
      go_wp2_with fail
      refine PermOk_i hp0.out ?_
      intro w1 b1
      rw [hpb'.out]
      have h3 := Lib.hid (H.out w1 b1)
      go_wp2_with fail
      refine contentsOk_i (hc0.out.below b1) hlen.2 ?_
      rw [hcb'.out]
      go_wp2_with fail
      exact h3.out
    | true =>
      obtain ⟨c1, c2, c3⟩ := Perms.contsB_parts hcb
      have hf : Perms.fixO p c = ((Perms.ways ((Perms.cycles p).map List.length) c : Nat) : Int) := by unfold Perms.fixO; rw [if_pos ⟨hpb, hcb⟩]
      rw [hf] at H
      have hcb' := Lib.hid hcb
      have c2' := Lib.hid c2
      have hcl := Perms.cycles_len p
      have hne : 1 ≤ c.length := by
        cases c with
        | nil => simp [Perms.inSum] at c3; omega
        | cons x c => simp
      obtain ⟨V, hV⟩ : ∃ V, V = Perms.ways ((Perms.cycles p).map List.length) c := ⟨_, rfl⟩
      rw [← hV] at H
      have hV' := Lib.hid hV
      obtain ⟨m, hm⟩ : ∃ m, m = (Perms.cycles p).length := ⟨_, rfl⟩
      have hm' := Lib.hid hm.symm
      rw [← hm] at hcl
      clear hf hcb hpb c2 c3 hV hm
      go_enter Try.func28, Try.ntmps28
      go_wp2_with fail
      refine PermOk_i hp0.out ?_
      intro w1 b1
      rw [hpb'.out]
      go_wp2_with fail
      refine contentsOk_i (hc0.out.below b1) hlen.2 ?_
      rw [hcb'.out]
      go_wp2_with fail
      refine CyclesOf_i (hp0.out.below b1) ?_
      intro v2 w2 o2 b2
      have hr2 := Lib.hid o2.at
      have b12 := b1.trans (b2.mono b1.size)
      obtain ⟨a2, k2, rfl, _, _, _⟩ := o2.form
      clear o2
      go_wp2_with fail
      refine Clone_c (hc0.out.below b12) (by omega) ?_
      intro v3 w3 o3 b3
      have b23 := b12.trans (b3.mono b12.size)
      obtain ⟨a3, k3, rfl, _, _, _⟩ := Own.form o3
      obtain ⟨g, rfl, hgB, hgl⟩ := Own.head o3 (by rw [ints_len]; omega)
      have o3' := Lib.hid o3
      rw [show (ints c).length = c.length from ints_len c] at o3' ⊢
      clear o3
      go_wp2_with fail
      refine ways_all m (Perms.cycles p) c w2 w3 _ g k3 _ hm'.out hcl c1 hne c2'.out hr2.out b3 o3'.out ?_
      intro w4 o4 b4
      have h3 := Lib.hid (H.out w4 (b12.trans (b4.mono b12.size)))
      rw [← hV'.out]
      go_wp2_with fail
      exact h3.out
theorem Perms.fixO_bd (p c : List Int) : 0 ≤ Perms.fixO p c ∧ Perms.fixO p c ≤ 1048576 := by
  unfold Perms.fixO
  split
  · rename_i h
    obtain ⟨c1, _, _⟩ := Perms.contsB_parts h.2
    have h1 := Perms.ways_le ((Perms.cycles p).map List.length) (left := c) 4 c1 (by omega)
    rw [List.length_map] at h1
    have h2 : 4 ^ (Perms.cycles p).length ≤ 4 ^ 10 := Nat.pow_le_pow_right (by omega) (Perms.cycles_len p)
    omega
  · omega
theorem Perms.conTo_bd (g : List (List Int)) (c : List Int) : ∀ j : Nat, 0 ≤ Perms.conTo g c j ∧ Perms.conTo g c j ≤ 1048576 * j
  | 0 => by simp [Perms.conTo]
  | j + 1 => by
    have ih := Perms.conTo_bd g c j
    have h := Perms.fixO_bd (g.getD j []) c
    unfold Perms.conTo
    omega
set_option maxHeartbeats 1600000 in
theorem CountContents_i {vg vc : Value} {g : List (List Int)} {c : List Int} {w : World} {Q : Ending → World → Prop} (hg : RowsAt w vg g) (hc : IntsAt w vc c)
    (hQ : ∀ w', Below w.heap.size w w' → Q (.returned (.int .i64 (Perms.conO g c))) w') :
    Calls Try.prog 25 #[vg, vc] w Q := by
  have H := Lib.hid hQ; clear hQ
  have hg0 := Lib.hid hg
  have hc0 := Lib.hid hc
  obtain ⟨ag, cg, rfl, lg, lcg, ccg⟩ := hg.form
  obtain ⟨ac, cc, rfl, lc, lcc, ccc⟩ := hc.form
  clear hg hc
  cases hok : Perms.grpB g with
  | false =>
    have hf : Perms.conO g c = -1 := by unfold Perms.conO; rw [if_neg (by rw [hok]; simp)]
    rw [hf] at H
    have hok' := Lib.hid hok
    clear hf hok
    go_enter Try.func25, Try.ntmps25
    go_wp2_with fail
    refine GroupOk_i hg0.out ?_
    intro w1 b1
    rw [hok'.out]
    have h3 := Lib.hid (H.out w1 b1)
    go_wp2_with fail
    exact h3.out
  | true =>
    have hf : Hid (Perms.conO g c = Perms.conTo g c g.length / g.length) := Lib.hid (by unfold Perms.conO; rw [if_pos hok])
    obtain ⟨hl1, hl2, _, _⟩ := Perms.grpB_parts hok
    have hok' := Lib.hid hok
    clear hok
    go_enter Try.func25, Try.ntmps25
    go_wp2_with fail
    refine GroupOk_i hg0.out ?_
    intro w1 b1
    rw [hok'.out]
    go_wp2_with fail
    go_loopg [5, 13] g.length (fun gg u5 u13 wr => ∃ (j : Nat), u13 = .int .i64 j ∧ u5 = .int .i64 (Perms.conTo g c j) ∧ Below w.heap.size w wr ∧ j + gg ≤ g.length ∧ g.length ≤ j + gg)
    case atStart => exact ⟨0, rfl, rfl, b1, by omega, by omega⟩
    case round =>
      obtain ⟨j, rfl, rfl, bj, hj1, hj2⟩ := hrel
      have hsb := Perms.conTo_bd g c j
      by_cases hj : j < g.length
      · have hjI : (j : Int) < g.length := by omega
        obtain ⟨b7, f7, u, x, e7, hx, hcx, hux⟩ := (hg0.out.below bj).cell hj
        cases e7
        obtain ⟨ax, cx, rfl, _, _, _⟩ := hux.form
        have hux' := Lib.hid hux
        have hsb2 := Perms.conTo_bd g c (j + 1)
        have hst : Perms.conTo g c (j + 1) = Perms.conTo g c j + Perms.fixO x c := by
          have e : g.getD j [] = x := by simp [List.getD, hx.out]
          show Perms.conTo g c j + Perms.fixO (g.getD j []) c = _
          rw [e]
        obtain ⟨P, hP⟩ : ∃ P, P = Perms.fixO x c := ⟨_, rfl⟩
        rw [← hP] at hst
        have hP' := Lib.hid hP
        have hbd : -9223372036854775808 ≤ Perms.conTo g c j + P ∧ Perms.conTo g c j + P ≤ 9223372036854775807 := by omega
        have hst' := Lib.hid hst
        clear hux hP hst hsb2
        go_wp2_with fail
        refine CountFixed_i hux'.out (hc0.out.below bj) ?_
        intro w3 b3
        rw [← hP'.out]
        have bj3 := bj.trans (b3.mono bj.size)
        go_wp2_with fail
        go_roundg (gk - 1)
        case measure => omega
        case rel => exact ⟨j + 1, by go_num, by rw [hst'.out], bj3, by omega, by omega⟩
      · have hje : j = g.length := by omega
        subst hje
        have h3 := Lib.hid (H.out wr bj)
        rw [hf.out] at h3
        obtain ⟨T, hT⟩ : ∃ T, T = Perms.conTo g c g.length := ⟨_, rfl⟩
        rw [← hT] at h3 hsb ⊢
        clear hT hf
        have hq0 : 0 ≤ T / (g.length : Int) := Int.ediv_nonneg hsb.1 (by omega)
        have hq1 : T / (g.length : Int) ≤ T := Int.ediv_le_self _ hsb.1
        have hgz : ((g.length : Int) == 0) = false := by rw [beq_eq_false_iff_ne]; omega
        have hgm : ((g.length : Int) == -1) = false := by rw [beq_eq_false_iff_ne]; omega
        go_wp2_with fail
        exact h3.out
theorem ints_two (w : World) (a b : Int) : OwnInts (w.alloc (.cells #[.int .i64 a, .int .i64 b] 3)) w.heap.size (.slice (some ⟨w.heap.size, 0, none⟩) 2 2) [a, b] := by
  have h4 := World.ownsRow_lit (size := 1) w (e := 3) #[.int .i64 a, .int .i64 b] 2 (Nat.le_refl _) (by unfold maxLen; omega) (by simp)
  exact h4
def Perms.twoC (g : List (List Int)) (n : Nat) : Nat → List Int
  | 0 => []
  | j + 1 => Perms.twoC g n j ++ [Perms.conO g [(n : Int) - j, j]]
theorem Perms.twoC_len (g : List (List Int)) (n : Nat) : ∀ j, (Perms.twoC g n j).length = j
  | 0 => rfl
  | j + 1 => by rw [Perms.twoC, List.length_append, Perms.twoC_len g n j]; rfl
theorem Perms.twoC_get {g : List (List Int)} {n i : Nat} : ∀ {j : Nat}, i < j → (Perms.twoC g n j)[i]? = some (Perms.conO g [(n : Int) - i, i])
  | 0, h => by omega
  | j + 1, h => by
    rw [Perms.twoC]
    by_cases e : i = j
    · subst e
      rw [List.getElem?_append_right (by rw [Perms.twoC_len]; omega), Perms.twoC_len, Nat.sub_self]
      rfl
    · rw [List.getElem?_append_left (by rw [Perms.twoC_len]; omega)]
      exact Perms.twoC_get (by omega)
set_option maxHeartbeats 1600000 in
theorem TwoColors_i {vg : Value} {g : List (List Int)} {n : Nat} {w : World} {Q : Ending → World → Prop} (hg : RowsAt w vg g) (hok : Perms.grpB g = true) (hn : (Perms.row0 g).length = n)
    (hQ : ∀ v w', OwnInts w' w.heap.size v (Perms.twoC g n (n + 1)) → Below w.heap.size w w' → Q (.returned v) w') :
    Calls Try.prog 26 #[vg] w Q := by
  have H := Lib.hid hQ; clear hQ
  have hg0 := Lib.hid hg
  obtain ⟨ag, cg, rfl, lg, lcg, ccg⟩ := hg.form
  clear hg
  obtain ⟨hl1, hl2, _, _⟩ := Perms.grpB_parts hok
  have hn10 : 1 ≤ n ∧ n ≤ 10 := by
    have := Perms.row0_len hok
    rw [hn] at this
    omega
  obtain ⟨hn1, hn2⟩ := hn10
  have hok' := Lib.hid hok
  obtain ⟨b0', f0', u0, x0, e0, hx0, hcx0, hux0⟩ := hg0.out.cell (k := 0) (by omega)
  cases e0
  have hx0l : x0.length = n := by
    rw [← hn]
    have := hx0.out
    simp [Perms.row0, List.getD, this]
  obtain ⟨ax0, kx0, rfl, _, _, _⟩ := hux0.form
  rw [hx0l, Nat.add_zero] at hcx0
  have hbz := below_alloc w (.cells #[] 3)
  have o0 := own_empty w
  clear hok hx0 hux0 hx0l hn
  go_enter Try.func26, Try.ntmps26
  go_wp2_with fail
  refine GroupOk_i (hg0.out.below hbz) ?_
  intro w1 b1
  rw [hok'.out]
  have b01 := hbz.trans (b1.mono hbz.size)
  have o1 := OwnInts.below o0 b1
  have hcx1 := below_cells b01 _ _ hcx0
  go_wp2_with fail
  go_loopg [3, 15] (n + 1) (fun gg u3 u15 wr => ∃ (j : Nat), u15 = .int .i64 j ∧ OwnInts wr w.heap.size u3 (Perms.twoC g n j) ∧ Below w.heap.size w wr ∧ j + gg ≤ n + 1 ∧ n + 1 ≤ j + gg)
  case atStart => exact ⟨0, rfl, o1, b01, by omega, by omega⟩
  case round =>
    obtain ⟨j, rfl, oj, bj, hj1, hj2⟩ := hrel
    obtain ⟨a3, c3, rfl, _, _, _⟩ := Own.form oj
    have hlen := Perms.twoC_len g n j
    by_cases hj : j < n + 1
    · have hjI : (j : Int) < (n : Int) + 1 := by omega
      have hcxj := below_cells bj _ _ hcx0
      have hlit := Lib.hid (OwnInts.at (ints_two wr ((n : Int) - j) j))
      have ba := below_alloc wr (.cells #[.int .i64 ((n : Int) - j), .int .i64 (j : Int)] 3)
      have bja := bj.trans (ba.mono bj.size)
      have hga := Lib.hid (hg0.out.below bja)
      have oja := OwnInts.below oj ba
      have hst : Perms.twoC g n (j + 1) = Perms.twoC g n j ++ [Perms.conO g [(n : Int) - j, j]] := rfl
      obtain ⟨P, hP⟩ : ∃ P, P = Perms.conO g [(n : Int) - j, j] := ⟨_, rfl⟩
      rw [← hP] at hst
      have hP' := Lib.hid hP
      have hst' := Lib.hid hst
      clear hst hP
      have b8 := bja.size
      go_wp2_with (first
        | (go_at_call 25; refine CountContents_i hga.out hlit.out ?_; intro w5 b5; rw [← hP'.out]; have bj5 := bja.trans (b5.mono bja.size); have oj5 := OwnInts.below oja b5)
        | (at_builtin; refine app_int rfl (.tmp 18) (.tmp 29) rfl rfl (OwnInts.below oj5 (below_alloc w5 _)) rfl (cell_new _ _ _) (by omega) (by have := bj5.size; simp; omega) ?_; intro v6 w6 o6 g6))
      have hs6 := g6.size
      have b9 := bj5.size
      have hb6 : Below w.heap.size w w6 := (bj5.alloc bj5.size _).grown g6 (by simp; omega) (fun b hb => (Own.lt oj5 hb).1)
      go_roundg (gk - 1)
      case measure => omega
      case rel => exact ⟨j + 1, by go_num, by rw [hst'.out]; exact o6, hb6, by omega, by omega⟩
    · obtain rfl : j = n + 1 := by omega
      have h3 := Lib.hid (H.out _ _ oj bj)
      go_wp2_with fail
      exact h3.out
end Go.Proofs.Ytdibmjijpdliaaa
/- Sorting a slice of integers of the call's own: out of the library's contract. -/
set_option linter.unusedVariables false
namespace Go.Proofs.Ytdibmjijpdliaaa
open Go.RowKit

theorem grownBy_sortWorld {α : Type} [Inhabited α] (enc : α → Value) (w : World) (blk off m : Nat) (dk : Array α) (os : Array Obj) : w.grownBy (sortWorld enc w blk off m dk os) (some blk) :=
  ⟨rfl, rfl, rfl, by unfold sortWorld; simp, fun k hk hne => heap_sortWorld enc w blk off m dk os hk (fun e => hne (by rw [e]))⟩
def Perms.srt (xs : List Int) : List Int := xs.mergeSort fun x y => decide (x ≤ y)
theorem Perms.srt_len (xs : List Int) : (Perms.srt xs).length = xs.length := List.length_mergeSort xs
theorem Perms.srt_two (a b : Int) : Perms.srt [a, b] = if a ≤ b then [a, b] else [b, a] := by
  by_cases h : a ≤ b <;> simp [Perms.srt, List.mergeSort, List.MergeSort.Internal.splitInTwo, List.merge, h]
theorem sortI_c {v : Value} {xs : List Int} {w : World} {B : Nat} {Q : Ending → World → Prop} (ho : OwnInts w B v xs) (hB : B ≤ w.heap.size) (hn : 0 < xs.length) (hbig : xs.length ≤ 1048576)
    (hQ : ∀ w', OwnInts w' B v (Perms.srt xs) → Below B w w' → w.grownBy w' v.ownBlock → Q (.returned (.tuple #[])) w') :
    Calls Try.prog 64 #[v] w Q := by
  obtain ⟨aa, ca, rfl, la, lca, cca⟩ := Own.form ho
  obtain ⟨g, rfl, hgB, hgl⟩ := Own.head ho (by rw [ints_len]; exact hn)
  have hH : Go.Sort.Holds (Value.int .i64) w g 0 xs.toArray := by
    intro j hj
    have hj' : j < xs.length := by simpa using hj
    refine ⟨?_, Own.frozen ho _⟩
    rw [Nat.zero_add, Own.cell ho (k := j) (x := .int .i64 xs[j]) (by rw [ints_get, List.getElem?_eq_getElem hj']; rfl)]
    simp [hj']
  have hc := Any.slices_Sort_int Try.sortI g 0 ca xs w hH hgl (by omega)
  rw [ints_len] at ho hQ ⊢
  refine hc.mono ?_
  rintro e w' ⟨rfl, n, os, rfl⟩
  have ow := own_sortWorld (Value.int .i64) ho n (Perms.srt xs).toArray os (by simp [Perms.srt])
  refine hQ _ ?_ (below_sortWorld (Value.int .i64) hB hgB 0 n (Perms.srt xs).toArray os) (grownBy_sortWorld (Value.int .i64) w g 0 n (Perms.srt xs).toArray os)
  have e : (Perms.srt xs).toArray.toList.map (Value.int .i64) = ints (Perms.srt xs) := rfl
  rw [e] at ow
  exact ow
end Go.Proofs.Ytdibmjijpdliaaa
/- The orbits of a group of permutations, as the program finds them. -/
set_option linter.unusedVariables false
namespace Go.Proofs.Ytdibmjijpdliaaa
open Go.RowKit

def Perms.orbS (g : List (List Int)) (j : Nat) (s0 : List Nat) : Nat → List Nat × List Int
  | 0 => (s0, [])
  | t + 1 =>
    let s := Perms.orbS g j s0 t
    let y := ((g.getD t []).getD j 0).toNat
    if y ∈ s.1 then s else (s.1 ++ [y], s.2 ++ [(y : Int)])
def Perms.orbTo (g : List (List Int)) : Nat → List Nat × List (List Int)
  | 0 => ([], [])
  | j + 1 =>
    let s := Perms.orbTo g j
    if j ∈ s.1 then s else
      let r := Perms.orbS g j s.1 g.length
      (r.1, s.2 ++ [Perms.srt r.2])
theorem Perms.orbTo_len (g : List (List Int)) : ∀ j, (Perms.orbTo g j).2.length ≤ j
  | 0 => by simp [Perms.orbTo]
  | j + 1 => by
    have ih := Perms.orbTo_len g j
    unfold Perms.orbTo
    by_cases hs : j ∈ (Perms.orbTo g j).1
    · rw [if_pos hs]; omega
    · rw [if_neg hs]; simp; omega
theorem Perms.orbS_len (g : List (List Int)) (j : Nat) (s0 : List Nat) : ∀ t, (Perms.orbS g j s0 t).2.length ≤ t
  | 0 => by simp [Perms.orbS]
  | t + 1 => by
    have ih := Perms.orbS_len g j s0 t
    unfold Perms.orbS
    by_cases hs : ((g.getD t []).getD j 0).toNat ∈ (Perms.orbS g j s0 t).1
    · rw [if_pos hs]; omega
    · rw [if_neg hs]; simp; omega
set_option maxHeartbeats 3200000 in
theorem OrbitsOf_i {vg : Value} {g : List (List Int)} {n : Nat} {w : World} {Q : Ending → World → Prop} (hg : RowsAt w vg g) (hok : Perms.grpB g = true) (hn : (Perms.row0 g).length = n)
    (hne : ∀ j, j < n → j ∉ (Perms.orbTo g j).1 → 0 < (Perms.orbS g j (Perms.orbTo g j).1 g.length).2.length)
    (hQ : ∀ v w', OwnRows w' w.heap.size w'.heap.size v (Perms.orbTo g n).2 → Below w.heap.size w w' → Q (.returned v) w') :
    Calls Try.prog 27 #[vg] w Q := by
  have H := Lib.hid hQ; clear hQ
  have hg0 := Lib.hid hg
  obtain ⟨ag, cg, rfl, lg, lcg, ccg⟩ := hg.form
  clear hg
  have G := Perms.grpB_grp hok
  obtain ⟨hl1, hl2, _, _⟩ := Perms.grpB_parts hok
  have hR : Hid (∀ p ∈ g, p.length = n ∧ ∀ x ∈ p, 0 ≤ x ∧ x < (n : Int)) := Lib.hid (fun p hp => ⟨by rw [← hn]; exact G.len p hp, by rw [← hn, ← G.len p hp]; exact Perms.permB_range (G.perm p hp)⟩)
  have hn10 : 1 ≤ n ∧ n ≤ 10 := by
    have := Perms.row0_len hok
    rw [hn] at this
    omega
  have hok' := Lib.hid hok
  have hne' := Lib.hid hne
  obtain ⟨b0', f0', u0, x0, e0, hx0, hcx0, hux0⟩ := hg0.out.cell (k := 0) (by omega)
  cases e0
  have hx0l : x0.length = n := (hR.out x0 (List.mem_of_getElem? hx0.out)).1
  obtain ⟨ax0, cx0, rfl, _, _, _⟩ := hux0.form
  rw [hx0l, Nat.add_zero] at hcx0
  have hg1 : Hid (RowsAt w (.slice (some ⟨b0', f0', none⟩) g.length cg) g) := hg0
  clear hok hne G hn hux0 hx0l hg0
  go_enter Try.func27, Try.ntmps27
  go_wp2_with fail
  refine GroupOk_i hg1.out ?_
  intro w1 b1
  rw [hok'.out]
  have o0 := own_outer_empty w1
  have b0 := below_alloc w1 (.cells #[] 25)
  have bw0 := b1.trans (b0.mono b1.size)
  have hcx1 := below_cells bw0 _ _ hcx0
  go_wp2_with (at_make; refine mk_bools rfl (.tmp 16) (.tmp 16) rfl rfl rfl n rfl (by omega) ?_; intro w2 hB2 hb2 hs2)
  obtain ⟨bb, hbb⟩ : ∃ bb, bb = (w1.alloc (.cells #[] 25)).heap.size := ⟨_, rfl⟩
  have hbb2 : w.heap.size ≤ bb := by have := b1.size; rw [hbb]; simp; omega
  have hbb3 : bb = w1.heap.size + 1 := by rw [hbb]; simp
  have hB2' : Hid (BoolsIn w2 bb 4 n (fun i => decide (i ∈ (Perms.orbTo g 0).1))) := Lib.hid (by rw [hbb]; exact hB2.congr (fun i hi => by simp [Perms.orbTo]))
  have o2 : Own w2 w.heap.size 25 (.slice (some ⟨w1.heap.size, 0, none⟩) 0 0) [] := Own.mono (Own.below o0 hb2) b1.size
  have bw2 := bw0.trans (hb2.mono bw0.size)
  have R0 : Hid (Rows w2 w.heap.size w2.heap.size [] (Perms.orbTo g 0).2) := Lib.hid (Rows.nil w2 w.heap.size w2.heap.size)
  rw [← hbb3]
  clear hB2 o0 hbb hbb3 hcx0 hcx1
  go_wp2_with fail
  go_loopg [3, 20] n (fun gg u3 u20 wr => ∃ (j : Nat) (us : List Value), u20 = .int .i64 j ∧ Own wr w.heap.size 25 u3 us ∧ Hid (Rows wr w.heap.size wr.heap.size us (Perms.orbTo g j).2) ∧ Hid (BoolsIn wr bb 4 n (fun i => decide (i ∈ (Perms.orbTo g j).1))) ∧ Below w.heap.size w wr ∧ j + gg ≤ n ∧ n ≤ j + gg)
  case atStart => exact ⟨0, [], rfl, o2, R0, hB2', bw2, by omega, by omega⟩
  case round =>
    obtain ⟨j, us, rfl, oj, rj, Bj, bj, hj1, hj2⟩ := hrel
    obtain ⟨gk1, hgk1⟩ : ∃ g, g = gk := ⟨_, rfl⟩
    obtain ⟨a3, c3, rfl, _, _, _⟩ := Own.form oj
    have hul : us.length ≤ 10 := by have := Perms.orbTo_len g j; rw [rj.out.1]; omega
    by_cases hj : j < n
    · have hjI : (j : Int) < n := by omega
      have hcb := Bj.out.cell hj
      have hst : Perms.orbTo g (j + 1) = if j ∈ (Perms.orbTo g j).1 then Perms.orbTo g j else ((Perms.orbS g j (Perms.orbTo g j).1 g.length).1, (Perms.orbTo g j).2 ++ [Perms.srt (Perms.orbS g j (Perms.orbTo g j).1 g.length).2]) := rfl
      by_cases hm : j ∈ (Perms.orbTo g j).1
      · rw [if_pos hm] at hst
        have hst' := Lib.hid hst
        rw [decide_eq_true hm] at hcb
        have rj' : Hid (Rows wr w.heap.size wr.heap.size us (Perms.orbTo g (j + 1)).2) := Lib.hid (by rw [hst'.out]; exact rj.out)
        have Bj' : Hid (BoolsIn wr bb 4 n (fun i => decide (i ∈ (Perms.orbTo g (j + 1)).1))) := Lib.hid (by rw [hst'.out]; exact Bj.out)
        clear hst hm
        go_wp2_with fail
        go_roundg (gk1 - 1)
        case measure => omega
        case rel => exact ⟨j + 1, us, by go_num, oj, rj', Bj', bj, by omega, by omega⟩
      · rw [if_neg hm] at hst
        rw [decide_eq_false hm] at hcb
        have hpos := Lib.hid (hne'.out j hj hm)
        obtain ⟨S0, hS0⟩ : ∃ S0, S0 = (Perms.orbTo g j).1 := ⟨_, rfl⟩
        obtain ⟨T0, hT0⟩ : ∃ T0, T0 = (Perms.orbTo g j).2 := ⟨_, rfl⟩
        rw [← hS0, ← hT0] at hst
        rw [← hS0] at hpos
        have hst' := Lib.hid hst
        clear hst hm
        go_wp2_with fail
        have o1 := own_empty wr
        have b1' := below_alloc wr (.cells #[] 3)
        obtain ⟨V, hV⟩ : ∃ V, V = wr.heap.size := ⟨_, rfl⟩
        have hVw : w.heap.size ≤ V := by have := bj.size; omega
        have hbV : bb < V := by rw [hV]; exact Bj.out.lt
        have i0 : OwnInts (wr.alloc (.cells #[] 3)) V (.slice (some ⟨wr.heap.size, 0, none⟩) 0 0) (Perms.orbS g j S0 0).2 := by rw [hV]; exact o1
        have i1 := Own.below oj b1'
        have i2 : Hid (Rows (wr.alloc (.cells #[] 3)) w.heap.size V us T0) := Lib.hid (by rw [hV, hT0]; exact rj.out.below b1')
        have i3 : Hid (BoolsIn (wr.alloc (.cells #[] 3)) bb 4 n (fun i => decide (i ∈ (Perms.orbS g j S0 0).1))) := Lib.hid (by rw [hS0]; exact Bj.out.below b1')
        have i4 := bj.trans (b1'.mono bj.size)
        have i5 : V ≤ (wr.alloc (.cells #[] 3)).heap.size := by rw [hV]; exact b1'.size
        clear hS0 hT0 oj rj Bj bj hV hcb
        go_loopg [6, 30] g.length (fun gg u6 u30 w2 => ∃ (t : Nat), u30 = .int .i64 t ∧ OwnInts w2 V u6 (Perms.orbS g j S0 t).2 ∧ Own w2 w.heap.size 25 (.slice a3 us.length c3) us ∧ Hid (Rows w2 w.heap.size V us T0) ∧ Hid (BoolsIn w2 bb 4 n (fun i => decide (i ∈ (Perms.orbS g j S0 t).1))) ∧ Below w.heap.size w w2 ∧ V ≤ w2.heap.size ∧ t + gg ≤ g.length ∧ g.length ≤ t + gg)
        case atStart => exact ⟨0, rfl, i0, i1, i2, i3, i4, i5, by omega, by omega⟩
        case round =>
          obtain ⟨t, rfl, ir, io, iR, iB, bi, hVs, ht1, ht2⟩ := hrel
          obtain ⟨a6, c6, rfl, _, _, _⟩ := Own.form ir
          have hsl := Perms.orbS_len g j S0 t
          by_cases ht : t < g.length
          · have htI : (t : Int) < g.length := by omega
            obtain ⟨b7, f7, u, x, e7, hx, hcx, hux⟩ := hg1.out.cell ht
            cases e7
            obtain ⟨ax, cx, rfl, _, _, _⟩ := hux.form
            obtain ⟨hxl, hxr⟩ := hR.out x (List.mem_of_getElem? hx.out)
            obtain ⟨bx, ox, y, rfl, hy, hcy⟩ := hux.cell (k := j) (by omega)
            obtain ⟨hy0, hy1⟩ := hxr y (List.mem_of_getElem? hy.out)
            obtain ⟨q, rfl⟩ : ∃ q : Nat, y = q := ⟨y.toNat, by omega⟩
            have hqn : q < n := by omega
            have hqI : (q : Int) < n := by omega
            rw [hxl] at hcx
            have hcxw := Lib.hid hcx
            have hcyw := Lib.hid hcy
            replace hcx := below_cells bi _ _ hcx
            replace hcy := below_cells bi _ _ hcy
            have hcq := iB.out.cell hqn
            have hfq := iB.out.frozen q
            have hst2 : Perms.orbS g j S0 (t + 1) = if q ∈ (Perms.orbS g j S0 t).1 then Perms.orbS g j S0 t else ((Perms.orbS g j S0 t).1 ++ [q], (Perms.orbS g j S0 t).2 ++ [(q : Int)]) := by
              have e1 : g.getD t [] = x := by simp [List.getD, hx.out]
              have e2 : (x.getD j 0).toNat = q := by simp [List.getD, hy.out]
              show (if ((g.getD t []).getD j 0).toNat ∈ _ then _ else _) = _
              rw [e1, e2]
            clear hux hxl hxr
            by_cases hmq : q ∈ (Perms.orbS g j S0 t).1
            · rw [if_pos hmq] at hst2
              rw [decide_eq_true hmq] at hcq
              have hst3 := Lib.hid hst2
              have ir3 : Hid (OwnInts wr V (.slice a6 (ints (Perms.orbS g j S0 t).2).length c6) (Perms.orbS g j S0 (t + 1)).2) := Lib.hid (by rw [hst3.out]; exact ir)
              have iB3 : Hid (BoolsIn wr bb 4 n (fun i => decide (i ∈ (Perms.orbS g j S0 (t + 1)).1))) := Lib.hid (by rw [hst3.out]; exact iB.out)
              clear hst2 hmq
              go_wp2_with fail
              go_roundg (gk - 1)
              case measure => omega
              case rel => exact ⟨t + 1, by go_num, ir3.out, io, iR, iB3, bi, hVs, by omega, by omega⟩
            · rw [if_neg hmq] at hst2
              rw [decide_eq_false hmq] at hcq
              have hst3 := Lib.hid hst2
              obtain ⟨s, hs⟩ : ∃ s, s = (Perms.orbS g j S0 t).1 := ⟨_, rfl⟩
              obtain ⟨row, hrow⟩ : ∃ row, row = (Perms.orbS g j S0 t).2 := ⟨_, rfl⟩
              rw [← hs, ← hrow] at hst3
              rw [← hrow] at ir hsl ⊢
              rw [← hs] at iB
              have jr : OwnInts (wr.setCell ⟨bb, q, none⟩ (.bool true)) V (.slice a6 (ints row).length c6) row := iB.out.keepOwn ir (by decide) _
              have jo := iB.out.keepOwn io (by decide) (.bool true) (k := q)
              have jR := Lib.hid (iB.out.keepRows iR.out (.bool true) (k := q))
              have jB : BoolsIn (wr.setCell ⟨bb, q, none⟩ (.bool true)) bb 4 n (fun i => decide (i ∈ s ++ [q])) := (iB.out.set q true).congr (fun i hi => by
                by_cases e : i = q
                · simp [e]
                · simp [e])
              have jB' := Lib.hid jB
              have bi2 := bi.setCell (p := ⟨bb, q, none⟩) hbb2 (.bool true)
              have hcy2 := below_cells bi2 _ _ hcyw.out
              have hcn : Hid (((wr.setCell ⟨bb, q, none⟩ (.bool true)).alloc (.cells #[.int .i64 (q : Int)] 3)).cell? ⟨wr.heap.size, 0, none⟩ = some (.int .i64 (q : Int))) := Lib.hid (by
                have h := cell_new (wr.setCell ⟨bb, q, none⟩ (.bool true)) (.int .i64 (q : Int)) 3
                have e : (wr.setCell ⟨bb, q, none⟩ (.bool true)).heap.size = wr.heap.size := by simp [World.setCell]
                rw [e] at h
                exact h)
              have ba := below_alloc (wr.setCell ⟨bb, q, none⟩ (.bool true)) (.cells #[.int .i64 (q : Int)] 3)
              have b6 := bi2.trans (ba.mono bi2.size)
              have kr := Lib.hid (OwnInts.below jr ba)
              have ko := Own.below jo ba
              have kR := Lib.hid (jR.out.below ba)
              have kB := Lib.hid (jB'.out.below ba)
              have kV : V ≤ ((wr.setCell ⟨bb, q, none⟩ (.bool true)).alloc (.cells #[.int .i64 (q : Int)] 3)).heap.size := by simp [World.setCell]; omega
              have hrl10 : row.length + 1 ≤ 17592186044416 := by omega
              have hB2x : ∀ (w' : World), (∀ k, k < w.heap.size → w'.heap[k]? = wr.heap[k]?) → True := fun _ _ => trivial
              clear hst2 hmq hs hrow jB jr jo jR jB' hB2x
              go_wp2_with (at_builtin; refine app_int rfl (.tmp 48) (.tmp 53) rfl rfl kr.out rfl hcn.out hrl10 kV ?_; intro v7 w7 o7 g7)
              have b7 := b6.grown g7 b6.size (fun b hb => by have := (Own.lt kr.out hb).1; omega)
              have ko7 := Own.grown ko g7 (own_types kr.out ko (by decide))
              have kR7 := Lib.hid (kR.out.grown g7 (fun k hk => .inr (Own.lt kr.out hk).1))
              have kB7 : Hid (BoolsIn w7 bb 4 n (fun i => decide (i ∈ (Perms.orbS g j S0 (t + 1)).1))) := Lib.hid (by rw [hst3.out]; exact kB.out.grown g7 (kB.out.apartOf kr.out (by decide)))
              have o8 : Hid (OwnInts w7 V v7 (Perms.orbS g j S0 (t + 1)).2) := Lib.hid (by rw [hst3.out]; exact o7)
              have kV7 : V ≤ w7.heap.size := Nat.le_trans kV g7.size
              go_roundg (gk - 1)
              case measure => omega
              case rel => exact ⟨t + 1, by go_num, o8.out, ko7, kR7, kB7, b7, kV7, by omega, by omega⟩
          · have hte : t = g.length := by omega
            rw [hte] at ir iB hsl
            obtain ⟨R, hR2⟩ : ∃ R, R = Perms.orbS g j S0 g.length := ⟨_, rfl⟩
            rw [← hR2] at hpos hst' ir iB hsl
            have hRe : Hid (Perms.orbS g j S0 t = R) := Lib.hid (by rw [hte, hR2])
            rw [hRe.out]
            have hn0 : 0 < R.2.length := hpos.out
            have hn1 : R.2.length ≤ 1048576 := by omega
            obtain ⟨row, hrow⟩ : ∃ row, row = R.2 := ⟨_, rfl⟩
            rw [← hrow] at ir hn0 hn1 hst' ⊢
            clear hR2 hRe hpos hsl hrow hte
            go_wp2_with fail
            refine sortI_c ir hVs hn0 hn1 ?_
            intro w3 o3 b3 g3
            have bi3 := bi.trans (b3.mono hVw)
            have io3 := Own.grown io g3 (own_types ir io (by decide))
            have iR3 := Lib.hid (iR.out.grown g3 (fun k hk => .inr (Own.lt ir hk).1))
            have iB3 := Lib.hid (iB.out.grown g3 (iB.out.apartOf ir (by decide)))
            have ba := below_alloc w3 (.cells #[.slice a6 (ints row).length c6] 25)
            have io4 := Own.below io3 ba
            have hr3 := row_one w3 (.slice a6 (ints row).length c6) 25
            have hone : Hid (∀ y' ∈ [Value.slice a6 (ints row).length c6], y'.oneCell' = true) := Lib.hid (fun y' hy' => by rw [List.mem_singleton] at hy'; rw [hy']; rfl)
            have oy := Lib.hid (OwnInts.below o3 ba)
            have iR4 := Lib.hid (iR3.out.below ba)
            have bi4 := bi3.trans (ba.mono bi3.size)
            have iB4 := Lib.hid (iB3.out.below ba)
            clear io ir iR iB o3 io3 iR3 iB3 b3 g3
            go_wp2_with (at_builtin; refine app_outer rfl (.tmp 58) (.tmp 60) rfl rfl io4 rfl hr3 hone.out (by show us.length + 1 ≤ 1099511627776; omega) bi4.size ?_; intro v5 w5 o5 g5)
            have r5 : Hid (Rows w5 w.heap.size w5.heap.size (us ++ [.slice a6 (ints row).length c6]) (Perms.orbTo g (j + 1)).2) := Lib.hid (by
              rw [hst'.out]
              exact (((iR4.out).push (xs := Perms.srt row) (OwnInts.mono oy.out hVw) (fun b hb => (Own.lt oy.out hb).1)).outer io4 g5).tight)
            have b5 := bi4.grown g5 bi4.size (fun b hb => (Own.lt io4 hb).1)
            have B5 : Hid (BoolsIn w5 bb 4 n (fun i => decide (i ∈ (Perms.orbTo g (j + 1)).1))) := Lib.hid (by
              rw [hst'.out]
              exact iB4.out.grown g5 (iB4.out.apartOf io4 (by decide)))
            go_roundg (gk1 - 1)
            case measure => omega
            case rel => exact ⟨j + 1, _, by go_num, o5, r5, B5, b5, by omega, by omega⟩
    · have hje : j = n := by omega
      have h2 : OwnRows wr w.heap.size wr.heap.size (.slice a3 us.length c3) (Perms.orbTo g n).2 := by
        rw [← hje]
        exact rj.out.whole oj (Own.inBlk oj)
      have h3 := Lib.hid (H.out _ wr h2 bj)
      clear h2
      go_wp2_with fail
      exact h3.out
end Go.Proofs.Ytdibmjijpdliaaa
