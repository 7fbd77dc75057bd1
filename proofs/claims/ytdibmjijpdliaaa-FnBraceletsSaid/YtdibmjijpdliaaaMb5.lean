/-
  Part 5 of 5 of what the law FnBracelets rests on.
-/
import Derived.Test.YtdibmjijpdliaaaMb4
import Derived.Test.YtdibmjijpdliaaaRows
import Derived.ProofKit
import Derived.OpenShut
import Derived.SizedLaws
import Derived.Carry
import Derived.Shelf.SlSortCmp.Whole1
import Derived.Test.YtdibmjijpdliaaaProg
import Derived.Lib.SliceRun
import Derived.Shelf.Abstract
set_option maxRecDepth 20000
/- From a law's contract to its row: how arguments are opened. -/
set_option linter.unusedVariables false
namespace Go.Proofs.Ytdibmjijpdliaaa
open Go.ChangeShapes Go.WideShapes Go.ChangeAt Go.RowKit

theorem Try.own : ownKnob Try.prog.godebug = none := by kernel_rfl
theorem Try.laidOut : laidOutB Try.prog = true := by kernel_rfl
theorem Try.cellsInt : Try.prog.cellsOf 3 = 1 := by kernel_rfl
theorem spot_none {w : World} {b off : Nat} {spot : Option Nat} {x : Value} (h : w.cell? ((⟨b, off, spot⟩ : Addr).add 0) = some x) : spot = none := by simpa [Addr.add] using World.cell?_spot h
theorem cell_add {w : World} {b off i : Nat} {x : Value} (h : w.cell? ((⟨b, off, none⟩ : Addr).add i) = some x) : w.cell? ⟨b, off + i, none⟩ = some x := by
  have e : (⟨b, off, none⟩ : Addr).add i = ⟨b, off + i, none⟩ := by unfold Addr.add; split <;> simp_all
  rw [← e]; exact h
/-- A slice of integers that came in. -/
theorem ints_of_trod {H : Type} {enc : TypeId × Value → H} {W : World} {base : Nat} {spare : Nat → Bool} {held : Bool} {v : Value} {d : DataW H} {p : List MemPlace}
    (h : DataW.Trod enc Try.prog W base spare held 25 v d p) (hv : ∃ a n c, v = .slice a n c) : ∃ xs, IntsAt W v xs := by
  obtain ⟨a0, n0, c0, rfl⟩ := hv
  obtain ⟨fuel, hf⟩ := h
  rcases open_ints Try.underlying25 Try.underlying3 Try.cellsInt hf with ⟨hcs, hx⟩ | ⟨a, len, cap, zs, hcs, _, hl, hm, hz, hx, hcell, hwz⟩
  · simp [Value.cells] at hcs
    obtain ⟨rfl, rfl, rfl⟩ := hcs
    exact ⟨[], none, 0, rfl, Nat.le_refl _, by unfold maxLen; omega, fun _ => rfl, fun k x hk => by simp [ints] at hk⟩
  · simp [Value.cells] at hcs
    obtain ⟨rfl, rfl, rfl⟩ := hcs
    have hlz : n0 ≤ zs.length := by rw [hz]; split <;> omega
    refine ⟨zs.take n0, some a, c0, ?_, ?_, hm, (fun h => by cases h), fun k x hk => ?_⟩
    · rw [ints_len, List.length_take, Nat.min_eq_left hlz]
    · rw [ints_len, List.length_take]; omega
    · obtain ⟨b, off, spot⟩ := a
      have hk' : k < n0 := by have := (List.getElem?_eq_some_iff.1 hk).1; rw [ints_len, List.length_take] at this; omega
      obtain rfl := spot_none (hcell 0 (by omega))
      have hc := cell_add (hcell k (by omega))
      refine ⟨b, off, rfl, ?_⟩
      rw [hc]
      rw [ints_get, List.getElem?_take, if_pos hk', List.getElem?_eq_getElem (by omega)] at hk
      rw [← hk]
      simp [List.getD, List.getElem?_eq_getElem (show k < zs.length by omega)]
theorem Try.cellsInts : Try.prog.cellsOf 25 = 1 := by kernel_rfl
theorem ints_of_cells {H : Type} {enc : TypeId × Value → H} {W : World} {base : Nat} {spare : Nat → Bool} {held : Bool} {fuel : Nat} {cs : List Value} {x : DataW H × List MemPlace}
    (h : DataW.trod enc Try.prog W base spare held fuel 25 cs = some x) : ∃ v xs, cs = [v] ∧ IntsAt W v xs := by
  rcases open_ints Try.underlying25 Try.underlying3 Try.cellsInt h with ⟨hcs, hx⟩ | ⟨a, len, cap, zs, hcs, _, hl, hm, hz, hx, hcell, hwz⟩
  · exact ⟨_, [], hcs, none, 0, rfl, Nat.le_refl _, by unfold maxLen; omega, fun _ => rfl, fun k x hk => by simp [ints] at hk⟩
  · have hlz : len ≤ zs.length := by rw [hz]; split <;> omega
    refine ⟨_, zs.take len, hcs, some a, cap, ?_, ?_, hm, (fun h => by cases h), fun k x hk => ?_⟩
    · rw [ints_len, List.length_take, Nat.min_eq_left hlz]
    · rw [ints_len, List.length_take]; omega
    · obtain ⟨b, off, spot⟩ := a
      have hk' : k < len := by have := (List.getElem?_eq_some_iff.1 hk).1; rw [ints_len, List.length_take] at this; omega
      obtain rfl := spot_none (hcell 0 (by omega))
      have hc := cell_add (hcell k (by omega))
      refine ⟨b, off, rfl, ?_⟩
      rw [hc]
      rw [ints_get, List.getElem?_take, if_pos hk', List.getElem?_eq_getElem (by omega)] at hk
      rw [← hk]
      simp [List.getD, List.getElem?_eq_getElem (show k < zs.length by omega)]
/-- A slice of slices of integers that came in. -/
theorem intss_of_trod {H : Type} {enc : TypeId × Value → H} {W : World} {base : Nat} {spare : Nat → Bool} {held : Bool} {v : Value} {d : DataW H} {p : List MemPlace}
    (h : DataW.Trod enc Try.prog W base spare held 23 v d p) (hv : ∃ a n c, v = .slice a n c) : ∃ xss, RowsAt W v xss := by
  obtain ⟨a0, n0, c0, rfl⟩ := hv
  obtain ⟨fuel, hf⟩ := h
  rcases DataW.trod_slice Try.underlying23 hf with ⟨hcs, hx⟩ | ⟨a, len, cap, elems, rest, n, _, hcs, _, hb, hl, hm, hlen, hel, hsp, hns⟩
  · simp [Value.cells] at hcs
    obtain ⟨rfl, rfl, rfl⟩ := hcs
    exact ⟨[], RowsAt.nil W⟩
  · simp [Value.cells] at hcs
    obtain ⟨rfl, rfl, rfl⟩ := hcs
    obtain ⟨b, off, spot⟩ := a
    have each : ∀ i, i < n0 → ∃ u xs, W.cell? ((⟨b, off, spot⟩ : Addr).add i) = some u ∧ IntsAt W u xs := fun i hi => by
      have e := hel i hi
      rw [List.getElem?_eq_getElem (by omega), Try.cellsInts, Nat.mul_one, Option.bind_eq_some_iff] at e
      obtain ⟨cs', hcs', hy⟩ := e
      obtain ⟨u, xs, rfl, hi⟩ := ints_of_cells hy
      exact ⟨u, xs, cell_of_cells?_one hcs', hi⟩
    have build : ∀ m, m ≤ n0 → ∃ (vs : List Value) (xss : List (List Int)), vs.length = m ∧ xss.length = m ∧ (∀ k u, vs[k]? = some u → W.cell? ((⟨b, off, spot⟩ : Addr).add k) = some u) ∧
        ∀ (k : Nat) (xs : List Int), xss[k]? = some xs → ∃ u, vs[k]? = some u ∧ IntsAt W u xs := by
      intro m
      induction m with
      | zero => exact fun _ => ⟨[], [], rfl, rfl, fun k u h => by simp at h, fun k xs h => by simp at h⟩
      | succ m ih =>
        intro hm
        obtain ⟨vs, xss, l1, l2, c1, c2⟩ := ih (by omega)
        obtain ⟨u, xs, e1, e2⟩ := each m (by omega)
        refine ⟨vs ++ [u], xss ++ [xs], by simp [l1], by simp [l2], fun k z hk => ?_, fun k zs hk => ?_⟩
        · by_cases hkm : k < m
          · rw [List.getElem?_append_left (by omega)] at hk; exact c1 k z hk
          · have := (List.getElem?_eq_some_iff.1 hk).1
            rw [List.length_append, List.length_singleton] at this
            obtain rfl : k = m := by omega
            rw [List.getElem?_append_right (by omega), l1, Nat.sub_self] at hk
            simp at hk; subst hk; exact e1
        · by_cases hkm : k < m
          · rw [List.getElem?_append_left (by omega)] at hk
            obtain ⟨u', h1, h2⟩ := c2 k zs hk
            exact ⟨u', by rw [List.getElem?_append_left (by omega)]; exact h1, h2⟩
          · have := (List.getElem?_eq_some_iff.1 hk).1
            rw [List.length_append, List.length_singleton] at this
            obtain rfl : k = m := by omega
            rw [List.getElem?_append_right (by omega), l2, Nat.sub_self] at hk
            simp at hk; subst hk
            exact ⟨u, by rw [List.getElem?_append_right (by omega), l1, Nat.sub_self]; rfl, e2⟩
    obtain ⟨vs, xss, l1, l2, c1, c2⟩ := build n0 (Nat.le_refl _)
    refine ⟨xss, vs, ⟨some ⟨b, off, spot⟩, c0, by rw [l1], by omega, hm, (fun h => by cases h), fun k x hk => ?_⟩, by omega, c2⟩
    have hc := c1 k x hk
    have hk0 : 0 < n0 := by have := (List.getElem?_eq_some_iff.1 hk).1; omega
    obtain rfl := spot_none (c1 0 _ (List.getElem?_eq_getElem (by omega)))
    exact ⟨b, off, rfl, cell_add hc⟩
theorem Try.cellsByte : Try.prog.cellsOf 5 = 1 := by kernel_rfl
/-- A slice of bytes that came in. -/
theorem bytes_of_trod {H : Type} {enc : TypeId × Value → H} {W : World} {base : Nat} {spare : Nat → Bool} {held : Bool} {v : Value} {d : DataW H} {p : List MemPlace}
    (h : DataW.Trod enc Try.prog W base spare held 22 v d p) (hv : ∃ a n c, v = .slice a n c) : ∃ bs, BytesAt W v bs := by
  obtain ⟨a0, n0, c0, rfl⟩ := hv
  obtain ⟨fuel, hf⟩ := h
  rcases open_ints Try.underlying22 Try.underlying5 Try.cellsByte hf with ⟨hcs, hx⟩ | ⟨a, len, cap, zs, hcs, _, hl, hm, hz, hx, hcell, hwz⟩
  · simp [Value.cells] at hcs
    obtain ⟨rfl, rfl, rfl⟩ := hcs
    exact ⟨[], none, 0, rfl, Nat.le_refl _, by unfold maxLen; omega, fun _ => rfl, fun k x hk => by simp [bytes] at hk⟩
  · simp [Value.cells] at hcs
    obtain ⟨rfl, rfl, rfl⟩ := hcs
    have hlz : n0 ≤ zs.length := by rw [hz]; split <;> omega
    have bl : ∀ l : List Int, (bytes l).length = l.length := fun l => by simp [bytes]
    refine ⟨zs.take n0, some a, c0, ?_, ?_, hm, (fun h => by cases h), fun k x hk => ?_⟩
    · rw [bl, List.length_take, Nat.min_eq_left hlz]
    · rw [bl, List.length_take]; omega
    · obtain ⟨b, off, spot⟩ := a
      have hk' : k < n0 := by have := (List.getElem?_eq_some_iff.1 hk).1; rw [bl, List.length_take] at this; omega
      obtain rfl := spot_none (hcell 0 (by omega))
      have hc := cell_add (hcell k (by omega))
      refine ⟨b, off, rfl, ?_⟩
      rw [hc]
      rw [bytes, List.getElem?_map, List.getElem?_take, if_pos hk', List.getElem?_eq_getElem (by omega)] at hk
      rw [← hk]
      simp [List.getD, List.getElem?_eq_getElem (show k < zs.length by omega)]
end Go.Proofs.Ytdibmjijpdliaaa
/- 'slices.SortFunc' of lists of integers: the library's contract laid at this program. -/
set_option linter.unusedVariables false
namespace Go.Proofs.Ytdibmjijpdliaaa
open Go.Shelf

def Try.sortRows_ren : Go.Shelf.Ren := ⟨fun | 6 => 99 | 15 => 96 | 14 => 124 | 28 => 122 | 29 => 123 | 20 => 132 | 21 => 133 | 22 => 134 | 23 => 135 | 24 => 136 | 25 => 137 | 26 => 138 | 27 => 139 | 46 => 141 | 47 => 128 | 48 => 129 | 49 => 142 | 50 => 143 | 57 => 144 | n => n, fun | 22 => 23 | 24 => 25 | 25 => 45 | 3 => 3 | 39 => 86 | 0 => 0 | 53 => 103 | 55 => 105 | 4 => 4 | 46 => 97 | 45 => 96 | 50 => 82 | 5 => 5 | 9 => 9 | 66 => 107 | 70 => 111 | 76 => 118 | 77 => 119 | n => n, fun | n => n⟩
theorem Try.sortRows : SlLaysF.n6 Try.prog Try.sortRows_ren := {
  mixed := by kernel_rfl
  f6 := ⟨Try.f99.name, by decide, Try.func99.trans (congrArg some (by kernel_rfl))⟩
  f14 := ⟨Try.f124.name, by decide, Try.func124.trans (congrArg some (by kernel_rfl))⟩
  f15 := Try.func96.trans (congrArg some (by kernel_rfl))
  f20 := ⟨Try.f132.name, by decide, Try.func132.trans (congrArg some (by kernel_rfl))⟩
  f21 := ⟨Try.f133.name, by decide, Try.func133.trans (congrArg some (by kernel_rfl))⟩
  f22 := ⟨Try.f134.name, by decide, Try.func134.trans (congrArg some (by kernel_rfl))⟩
  f23 := ⟨Try.f135.name, by decide, Try.func135.trans (congrArg some (by kernel_rfl))⟩
  f24 := ⟨Try.f136.name, by decide, Try.func136.trans (congrArg some (by kernel_rfl))⟩
  f25 := ⟨Try.f137.name, by decide, Try.func137.trans (congrArg some (by kernel_rfl))⟩
  f26 := ⟨Try.f138.name, by decide, Try.func138.trans (congrArg some (by kernel_rfl))⟩
  f27 := ⟨Try.f139.name, by decide, Try.func139.trans (congrArg some (by kernel_rfl))⟩
  f28 := Try.func122.trans (congrArg some (by kernel_rfl))
  f29 := Try.func123.trans (congrArg some (by kernel_rfl))
  f46 := ⟨Try.f141.name, by decide, Try.func141.trans (congrArg some (by kernel_rfl))⟩
  f47 := Try.func128.trans (congrArg some (by kernel_rfl))
  f48 := Try.func129.trans (congrArg some (by kernel_rfl))
  f49 := ⟨Try.f142.name, by decide, Try.func142.trans (congrArg some (by kernel_rfl))⟩
  f50 := ⟨Try.f143.name, by decide, Try.func143.trans (congrArg some (by kernel_rfl))⟩
  f57 := ⟨Try.f144.name, by decide, Try.func144.trans (congrArg some (by kernel_rfl))⟩
  t0 := Try.underlying0
  a0 := Try.isAgg0
  z0 := Try.sizeOf0
  v0 := Try.zeroValue0
  t3 := Try.underlying3
  a3 := Try.isAgg3
  z3 := Try.sizeOf3
  v3 := Try.zeroValue3
  t4 := Try.underlying4
  a4 := Try.isAgg4
  z4 := Try.sizeOf4
  v4 := Try.zeroValue4
  t5 := Try.underlying5
  a5 := Try.isAgg5
  z5 := Try.sizeOf5
  v5 := Try.zeroValue5
  t9 := Try.underlying9
  a9 := Try.isAgg9
  z9 := Try.sizeOf9
  v9 := Try.zeroValue9
  t22 := Try.underlying23
  a22 := Try.isAgg23
  z22 := Try.sizeOf23
  v22 := Try.zeroValue23
  a24 := Try.isAgg25
  z24 := Try.sizeOf25
  t25 := Try.underlying45
  a25 := Try.isAgg45
  z25 := Try.sizeOf45
  v25 := Try.zeroValue45
  t39 := Try.underlying86
  a39 := Try.isAgg86
  z39 := Try.sizeOf86
  v39 := Try.zeroValue86
  t45 := Try.underlying96
  a45 := Try.isAgg96
  z45 := Try.sizeOf96
  v45 := Try.zeroValue96
  t46 := Try.underlying97
  a46 := Try.isAgg97
  z46 := Try.sizeOf97
  v46 := Try.zeroValue97
  t50 := Try.underlying82
  a50 := Try.isAgg82
  z50 := Try.sizeOf82
  v50 := Try.zeroValue82
  t53 := Try.underlying103
  a53 := Try.isAgg103
  z53 := Try.sizeOf103
  v53 := Try.zeroValue103
  t55 := Try.underlying105
  a55 := Try.isAgg105
  z55 := Try.sizeOf105
  v55 := Try.zeroValue105
  t66 := Try.underlying107
  a66 := Try.isAgg107
  z66 := Try.sizeOf107
  v66 := Try.zeroValue107
  t70 := Try.underlying111
  a70 := Try.isAgg111
  z70 := Try.sizeOf111
  v70 := Try.zeroValue111
  t76 := Try.underlying118
  a76 := Try.isAgg118
  z76 := Try.sizeOf118
  v76 := Try.zeroValue118
  t77 := Try.underlying119
  a77 := Try.isAgg119
  z77 := Try.sizeOf119
  v77 := Try.zeroValue119 }
end Go.Proofs.Ytdibmjijpdliaaa
/- 'slices.IndexFunc' and 'slices.DeleteFunc' of lists of integers, with a closure that makes memory of its own and changes none. -/
set_option linter.unusedVariables false
namespace Go.Proofs.Ytdibmjijpdliaaa
open Go.RowKit

/-- What a closure says of each list of xss, in whatever world that has the same memory below B. -/
def Says (f : Nat) (lb : Array Value) (B : Nat) (w0 : World) (xss : List (List Int)) (P : List Int → Bool) : Prop :=
  ∀ (wr : World) (u : Value) (xs : List Int) (Q : Ending → World → Prop), Below B w0 wr → xs ∈ xss → IntsAt wr u xs →
    (∀ w', Below wr.heap.size wr w' → Q (.returned (.bool (P xs))) w') → Calls Try.prog f (#[u] ++ lb) wr Q
theorem own_setCells {B : Nat} {T : TypeId} {g n cap : Nat} : ∀ (vs : List Value) (o : Nat) {w : World} {cur : List Value}, Own w B T (.slice (some ⟨g, 0, none⟩) n cap) cur →
    ∃ cur', Own (w.setCells g o vs) B T (.slice (some ⟨g, 0, none⟩) n cap) cur' ∧ cur'.take o = cur.take o ∧ w.grownBy (w.setCells g o vs) (some g)
  | [], o, w, cur, h => ⟨cur, h, rfl, ⟨rfl, rfl, rfl, Nat.le_refl _, fun _ _ _ => rfl⟩⟩
  | v :: vs, o, w, cur, h => by
    obtain ⟨cur', h1, h2, h3⟩ := own_setCells vs (o + 1) (h.set o v)
    refine ⟨cur', h1, ?_, grown_trans (grown_set w g o v) h3⟩
    have := congrArg (List.take o) h2
    rw [List.take_take, List.take_take, Nat.min_eq_left (by omega), List.take_set_of_le (Nat.le_refl _)] at this
    exact this
theorem Own.upto {w : World} {B : Nat} {T : TypeId} {g n cap k : Nat} {xs : List Value} (h : Own w B T (.slice (some ⟨g, 0, none⟩) n cap) xs) (hk : k ≤ n) : Own w B T (.slice (some ⟨g, 0, none⟩) k cap) (xs.take k) := by
  obtain rfl := h.len
  unfold Own at h ⊢
  rcases h.2 with ⟨he, _⟩ | ⟨g', cap', cur, he, hb, hgg, h1, h2, h3, h4⟩
  · cases he
  · simp only [Value.slice.injEq] at he
    obtain ⟨e1, _, rfl⟩ := he
    obtain rfl : g = g' := by simpa using e1
    rw [Nat.mul_one] at h3 h4
    refine ⟨by simp, .inr ⟨g, cap, cur, ?_, hb, hgg, ?_, h2, by omega, ?_⟩⟩
    · rw [List.length_take, Nat.min_eq_left hk]
    · rw [List.length_take]; omega
    · rw [List.length_take, Nat.min_eq_left hk, Nat.mul_one, ← h4, List.take_take, Nat.min_eq_left hk]
/-- What DeleteFunc has done at place j: the rows at the places 'is' stand at the head, those from j on where they stood. -/
structure DelInv (P : List Int → Bool) (xss : List (List Int)) (us : List Value) (j : Nat) (is : List Nat) (cur : List Value) : Prop where
  asc : is.Pairwise (· < ·)
  lt : ∀ i ∈ is, i < j
  sum : (is.map fun i => xss.getD i []) = (xss.take j).filter fun x => !P x
  len : cur.length = us.length
  low : ∀ t i : Nat, is[t]? = some i → cur[t]? = us[i]?
  high : ∀ t : Nat, j ≤ t → cur[t]? = us[t]?
  room : is.length < j
theorem DelInv.start {P : List Int → Bool} {xss : List (List Int)} {us : List Value} {k : Nat} {x : List Int} (hx : xss[k]? = some x) (hp : P x = true) (hb : ∀ (j : Nat) ys, j < k → xss[j]? = some ys → P ys = false) : DelInv P xss us (k + 1) (List.range k) us := by
  have hk : k < xss.length := (List.getElem?_eq_some_iff.1 hx).1
  refine ⟨List.pairwise_lt_range, fun i hi => by have := List.mem_range.1 hi; omega, ?_, rfl, ?_, fun _ _ => rfl, by simp⟩
  · rw [List.take_add_one, hx, List.filter_append]
    have h1 : (xss.take k).filter (fun x => !P x) = xss.take k := List.filter_eq_self.2 fun y hy => by
      obtain ⟨j, hj⟩ := List.getElem?_of_mem hy
      rw [List.getElem?_take] at hj
      split at hj
      · rename_i h
        rw [hb j y h hj]; rfl
      · cases hj
    rw [h1]
    simp [hp]
    apply List.ext_getElem?
    intro i
    by_cases h : i < k
    · rw [List.getElem?_map, List.getElem?_range h, List.getElem?_take, if_pos h]
      simp [List.getElem?_eq_getElem (show i < xss.length by omega)]
    · rw [List.getElem?_eq_none (by simp; omega), List.getElem?_eq_none (by simp; omega)]
  · intro t i ht
    have hl := (List.getElem?_eq_some_iff.1 ht).1
    rw [List.length_range] at hl
    rw [List.getElem?_range hl] at ht
    cases ht
    rfl
theorem DelInv.keep {P : List Int → Bool} {xss : List (List Int)} {us cur : List Value} {is : List Nat} {j : Nat} {x : List Int} {u : Value} (h : DelInv P xss us j is cur) (hx : xss[j]? = some x) (hu : us[j]? = some u) (hp : P x = false) : DelInv P xss us (j + 1) (is ++ [j]) (cur.set is.length u) := by
  have hl := (List.getElem?_eq_some_iff.1 hu).1
  have hr := h.room
  have hcl := h.len
  refine ⟨?_, ?_, ?_, by rw [List.length_set]; exact h.len, ?_, ?_, by rw [List.length_append, List.length_singleton]; omega⟩
  · rw [List.pairwise_append]
    refine ⟨h.asc, List.pairwise_singleton _ _, fun a ha b hb => ?_⟩
    rw [List.mem_singleton] at hb
    subst hb
    exact h.lt a ha
  · intro i hi
    rcases List.mem_append.1 hi with hi | hi
    · have := h.lt i hi; omega
    · rw [List.mem_singleton] at hi; omega
  · have := pick_step (f := fun x => !P x) h.sum hx
    rw [if_pos (by rw [hp]; rfl)] at this
    exact this
  · intro t i ht
    by_cases e : t < is.length
    · rw [List.getElem?_append_left e] at ht
      rw [List.getElem?_set_ne (by omega)]
      exact h.low t i ht
    · have h2 := (List.getElem?_eq_some_iff.1 ht).1
      rw [List.length_append, List.length_singleton] at h2
      obtain rfl : t = is.length := by omega
      rw [List.getElem?_append_right (Nat.le_refl _), Nat.sub_self] at ht
      cases ht
      rw [List.getElem?_set_self (by omega), hu]
  · intro t ht
    rw [List.getElem?_set_ne (by omega)]
    exact h.high t (by omega)
theorem DelInv.skip {P : List Int → Bool} {xss : List (List Int)} {us cur : List Value} {is : List Nat} {j : Nat} {x : List Int} (h : DelInv P xss us j is cur) (hx : xss[j]? = some x) (hp : P x = true) : DelInv P xss us (j + 1) is cur := by
  have hr := h.room
  refine ⟨h.asc, fun i hi => by have := h.lt i hi; omega, ?_, h.len, h.low, fun t ht => h.high t (by omega), by omega⟩
  have := pick_step (f := fun x => !P x) h.sum hx
  rw [if_neg (by rw [hp]; decide)] at this
  exact this
theorem DelInv.whole {P : List Int → Bool} {xss : List (List Int)} {us cur : List Value} {is : List Nat} {w : World} {B E : Nat} (h : DelInv P xss us xss.length is cur) (hr : Rows w B E us xss) : Rows w B E (cur.take is.length) (xss.filter fun x => !P x) := by
  have hp := hr.pick h.asc h.lt
  rw [h.sum, List.take_of_length_le (Nat.le_refl _)] at hp
  have e : (is.map fun i => us.getD i nilV) = cur.take is.length := by
    apply List.ext_getElem?
    intro t
    by_cases ht : t < is.length
    · have h1 := List.getElem?_eq_getElem ht
      have h2 := h.lt _ (List.getElem_mem ht)
      have hl := hr.1
      rw [List.getElem?_map, List.getElem?_take, if_pos ht, h.low t _ h1, h1]
      simp [List.getD, List.getElem?_eq_getElem (show is[t] < us.length by omega)]
    · rw [List.getElem?_eq_none (by simp; omega), List.getElem?_eq_none (by simp; omega)]
  rw [e] at hp
  exact hp
set_option maxHeartbeats 1000000 in
theorem findIf_c {f : Nat} {lb : Array Value} {P : List Int → Bool} (eg : ∀ args w, (callFunc f args).run Try.prog w = .ok (.enter f args) w) {va : Value} {xss : List (List Int)} {w : World} {Q : Ending → World → Prop} {B : Nat} (ha : RowsAt w va xss) (hB : B ≤ w.heap.size) (hs : Says f lb B w xss P)
    (h0 : ∀ w', Below w.heap.size w w' → (∀ xs ∈ xss, P xs = false) → Q (.returned (.int .i64 (-1))) w')
    (h1 : ∀ w' (k : Nat) xs, Below w.heap.size w w' → xss[k]? = some xs → P xs = true → (∀ (j : Nat) ys, j < k → xss[j]? = some ys → P ys = false) → Q (.returned (.int .i64 k)) w') :
    Calls Try.prog 102 #[va, .func (.func f) #[] lb] w Q := by
  have H0 := Lib.hid h0; clear h0
  have H1 := Lib.hid h1; clear h1
  have HS := Lib.hid hs; clear hs
  obtain ⟨aa, ca, rfl, la, lca, cca⟩ := ha.form
  go_enter Try.func102, Try.ntmps102
  go_wp2_with fail
  go_loopg [8] xss.length (fun g i wr => Below w.heap.size w wr ∧ ∃ j : Nat, i = .int .i64 j ∧ Hid (∀ (t : Nat) ys, t < j → xss[t]? = some ys → P ys = false) ∧ j + g ≤ xss.length ∧ xss.length ≤ j + g)
  case atStart => exact ⟨Below.refl _ _, 0, rfl, Lib.hid (fun t ys h => by omega), by omega, by omega⟩
  case round =>
    obtain ⟨hb, j, rfl, hg, hk1, hk2⟩ := hrel
    by_cases hj : j < xss.length
    · obtain ⟨b, off, u, xs, rfl, hx, hcw, hi⟩ := ha.cell hj
      have hc := below_cells hb _ _ hcw
      have i1 : (j : Int) < xss.length := by omega
      have hbB : Below B w wr := hb.mono hB
      have hi' := Lib.hid (hi.below hb)
      have hm := Lib.hid (List.mem_of_getElem? hx.out)
      clear hcw hi
      cases hp0 : P xs with
      | true =>
        have hp := Lib.hid hp0
        clear hp0
        go_wp2_with (go_at_fn f; refine HS.out _ _ _ _ hbB hm.out hi'.out ?_; intro w2 b2; rw [hp.out])
        exact H1.out _ _ _ (hb.trans (b2.mono hb.size)) hx.out hp.out hg.out
      | false =>
        have hp := Lib.hid hp0
        clear hp0
        have hg2 : Hid (∀ (t : Nat) ys, t < j + 1 → xss[t]? = some ys → P ys = false) := Lib.hid (fun t ys ht hy => by
          by_cases e : t < j
          · exact hg.out t ys e hy
          · obtain rfl : t = j := by omega
            rw [hx.out] at hy
            cases hy
            exact hp.out)
        go_wp2_with (go_at_fn f; refine HS.out _ _ _ _ hbB hm.out hi'.out ?_; intro w2 b2; rw [hp.out])
        go_roundg (gk - 1)
        case measure => omega
        case rel => exact ⟨hb.trans (b2.mono hb.size), j + 1, by go_num, hg2, by omega, by omega⟩
    · go_wp2_with fail
      exact H0.out _ hb (fun xs hxs => by
        obtain ⟨t, ht⟩ := List.getElem?_of_mem hxs
        have := (List.getElem?_eq_some_iff.1 ht).1
        exact hg.out t xs (by omega) ht)
set_option maxHeartbeats 2000000 in
theorem delete_c {f : Nat} {lb : Array Value} {P : List Int → Bool} (eg : ∀ args w, (callFunc f args).run Try.prog w = .ok (.enter f args) w) {vg : Value} {xss : List (List Int)} {w : World} {Q : Ending → World → Prop} {B E : Nat} (ho : OwnRows w B E vg xss) (hB : B ≤ w.heap.size) (hs : Says f lb B w xss P)
    (hQ : ∀ v w', OwnRows w' B w'.heap.size v (xss.filter fun x => !P x) → Below B w w' → Q (.returned v) w') :
    Calls Try.prog 79 #[vg, .func (.func f) #[] lb] w Q := by
  have H := Lib.hid hQ; clear hQ
  have HS := Lib.hid hs; clear hs
  have ha := Lib.hid ho.at
  obtain ⟨us, o1, o2, o3⟩ := ho.parts
  have hul := o3.1
  have ho' := Lib.hid ho
  obtain ⟨aa, ca, rfl, lus, lca, cca⟩ := ho.form
  clear ho
  go_enter Try.func79, Try.ntmps79
  go_wp2_with fail
  refine findIf_c eg ha.out hB HS.out ?_ ?_
  · intro w1 b1 hall
    have e : (xss.filter fun x => !P x) = xss := List.filter_eq_self.2 fun x hx => by rw [hall x hx]; rfl
    have h2 := H.out _ w1 (by rw [e]; exact (ho'.out.below b1).tight) (b1.mono hB)
    have h3 := Lib.hid h2
    clear h2 hall e
    go_wp2_with fail
    exact h3.out
  intro w1 k x b1 hx hp hb
  have hk : k < xss.length := (List.getElem?_eq_some_iff.1 hx).1
  have I0 := Lib.hid (DelInv.start (us := us) hx hp hb)
  have o1' := Own.below o1 b1
  have o3' := Lib.hid ((o3.below b1).tight)
  obtain ⟨g, rfl, hgB, _⟩ := Own.head o1' (by omega)
  have hb1 : Below B w w1 := b1.mono hB
  have hne : ¬ (k : Int) = -1 := by omega
  clear hx hp hb o1 o2 o3
  go_wp2_with fail
  go_loopg [5, 6, 7] xss.length (fun gg s5 s6 s7 wr => ∃ (j : Nat) (is : List Nat) (cur : List Value), s5 = .int .i64 is.length ∧ s6 = .int .i64 j ∧ Hid (DelInv P xss us j is cur) ∧ Own wr B 25 (.slice (some ⟨g, 0, none⟩) xss.length ca) cur ∧ Hid (Rows wr B wr.heap.size us xss) ∧ Below B w wr ∧ j ≤ xss.length ∧ xss.length ≤ j + gg)
  case atStart => exact ⟨k + 1, List.range k, us, by simp, by go_num, I0, o1', o3', hb1, by omega, by omega⟩
  case round =>
    obtain ⟨j, is, cur, rfl, rfl, I, o, r, hbw, hj1, hj2⟩ := hrel
    have hroom := I.out.room
    by_cases hj : j < xss.length
    · obtain ⟨u, xs, hu, hx, hou, _⟩ := r.out.get hj
      obtain ⟨au, cu, rfl, _, _, _⟩ := Own.form hou
      have hcell := o.cell (k := j) (by rw [I.out.high j (Nat.le_refl _)]; exact hu.out)
      have hfz := fun t => o.frozen t
      obtain ⟨old, hold⟩ : ∃ old, cur[is.length]? = some old := ⟨_, List.getElem?_eq_getElem (by rw [I.out.len]; omega)⟩
      have hi' := Lib.hid hou.at
      have hm := Lib.hid (List.mem_of_getElem? hx.out)
      have hjI : (j : Int) < xss.length := by omega
      have hiI : (is.length : Int) < xss.length := by omega
      cases hp0 : P xs with
      | true =>
        have hp := Lib.hid hp0
        have I2 := Lib.hid (I.out.skip hx.out hp0)
        clear hp0
        go_wp2_with (go_at_fn f; refine HS.out _ _ _ _ hbw hm.out hi'.out ?_; intro w2 b2; rw [hp.out])
        go_roundg (gk - 1)
        case measure => omega
        case rel => exact ⟨j + 1, is, cur, rfl, by go_num, I2, Own.below o b2, Lib.hid ((r.out.below b2).tight), hbw.trans (b2.mono (by have := hbw.size; omega)), by omega, by omega⟩
      | false =>
        have hp := Lib.hid hp0
        have I2 := Lib.hid (I.out.keep hx.out hu.out hp0)
        clear hp0
        go_wp2_with (go_at_fn f; refine HS.out _ _ _ _ hbw hm.out hi'.out ?_; intro w2 b2; rw [hp.out]; have hcold := (Own.below o b2).cell hold; have hfz2 := (Own.below o b2).frozen is.length)
        have o2 := (Own.below o b2).set is.length (.slice au (ints xs).length cu)
        have hg2 := grown_set w2 g is.length (.slice au (ints xs).length cu)
        have r2 := ((r.out.below b2).tight).outer (Own.below o b2) hg2
        have hs2 := hg2.size
        have hb2 : Below B w w2 := hbw.trans (b2.mono (by have := hbw.size; omega))
        go_roundg (gk - 1)
        case measure => omega
        case rel => exact ⟨j + 1, is ++ [j], _, by simp, by go_num, I2, o2, Lib.hid (r2.mono (Nat.le_refl _) hs2), hb2.grown hg2 (by have := hb2.size; omega) (fun b hb => by cases hb; exact hgB), by omega, by omega⟩
    · obtain rfl : j = xss.length := by omega
      have hfz := fun t => o.frozen t
      have hcl0 : ∀ t, t < xss.length - is.length → (wr.cell? ⟨g, is.length + t, none⟩).isSome = true := fun t ht => by
        rw [o.cell (k := is.length + t) (List.getElem?_eq_getElem (by rw [I.out.len]; omega))]; rfl
      have hcl := fun ty => Lib.run_clear_slice (P := Try.prog) wr 23 25 ty nilV (by kernel_rfl) (fun w => by kernel_rfl) rfl rfl g is.length (xss.length - is.length) (ca - is.length) (by omega) hcl0 (fun t ht => hfz _)
      have hlt : (is.length : Int) ≤ xss.length := by omega
      have hltz : ¬ (xss.length : Int) < xss.length := by omega
      obtain ⟨cur', oc, tk, gg⟩ := own_setCells (List.replicate (xss.length - is.length) nilV) is.length o
      have ou := Own.upto (k := is.length) oc (by omega)
      rw [tk] at ou
      have W := (I.out.whole (r.out.outer o gg)).tight
      have hsz := hbw.size
      have h2 := H.out _ _ (W.whole ou (Own.inBlk ou)) (hbw.grown gg (by omega) (fun b hb => by cases hb; exact hgB))
      have h3 := Lib.hid h2
      clear h2 W ou tk oc gg I hcl0 r
      go_wp2_with fail
      exact h3.out
end Go.Proofs.Ytdibmjijpdliaaa
/- Sorting a slice of slices of integers: out of the library's contract. -/
set_option linter.unusedVariables false
namespace Go.Proofs.Ytdibmjijpdliaaa
open Go.RowKit

theorem apart.symm {u v : Value} (h : apart u v) : apart v u := by
  unfold apart at h ⊢
  cases hv : v.ownBlock with
  | none => exact .inl rfl
  | some b =>
    refine .inr fun e => ?_
    rcases h with h | h
    · rw [h] at e; cases e
    · rw [hv] at h; exact h e.symm
/-- The rows in another order. -/
theorem Rows.perm {w : World} {B E : Nat} {us : List Value} {xss : List (List Int)} (h : Rows w B E us xss) {is : List Nat} (hp : is.Nodup) (hl : ∀ i ∈ is, i < xss.length) :
    Rows w B E (is.map fun i => us.getD i nilV) (is.map fun i => xss.getD i []) := by
  obtain ⟨h3, h4, h5⟩ := h
  refine ⟨by simp, fun k xs hk => ?_, fun i j z z' hij hz hz' => ?_⟩
  · rw [List.getElem?_map, Option.map_eq_some_iff] at hk
    obtain ⟨i, hi, rfl⟩ := hk
    have hil := hl i (List.mem_of_getElem? hi)
    obtain ⟨u, a, b, c⟩ := h4 i _ (List.getElem?_eq_getElem hil)
    have e : xss.getD i [] = xss[i] := by simp [List.getD, List.getElem?_eq_getElem hil]
    refine ⟨u, ?_, by rw [e]; exact b, c⟩
    rw [List.getElem?_map, hi]
    simp [List.getD, a]
  · rw [List.getElem?_map, Option.map_eq_some_iff] at hz hz'
    obtain ⟨a, ha, rfl⟩ := hz
    obtain ⟨b, hb, rfl⟩ := hz'
    have hal := hl a (List.mem_of_getElem? ha)
    have hbl := hl b (List.mem_of_getElem? hb)
    have hab : a ≠ b := by
      intro e
      subst e
      rw [List.nodup_iff_pairwise_ne, List.pairwise_iff_getElem] at hp
      obtain ⟨x1, e1⟩ := List.getElem?_eq_some_iff.1 ha
      obtain ⟨x2, e2⟩ := List.getElem?_eq_some_iff.1 hb
      exact hp i j x1 x2 hij (e1.trans e2.symm)
    have ga : us[a]? = some (us.getD a nilV) := by simp [List.getD, List.getElem?_eq_getElem (show a < us.length by omega)]
    have gb : us[b]? = some (us.getD b nilV) := by simp [List.getD, List.getElem?_eq_getElem (show b < us.length by omega)]
    by_cases h : a < b
    · exact h5 a b _ _ h ga gb
    · exact (h5 b a _ _ (by omega) gb ga).symm
theorem map_range_getD {α : Type} (l : List α) (d : α) : ((List.range l.length).map fun i => l.getD i d) = l := by
  apply List.ext_getElem?
  intro i
  by_cases h : i < l.length
  · rw [List.getElem?_map, List.getElem?_range h]
    simp [List.getD, List.getElem?_eq_getElem h]
  · rw [List.getElem?_eq_none (by simp; omega), List.getElem?_eq_none (by omega)]
def Words.Sorted (l : List (List Int)) : Prop := l.Pairwise fun a b => ¬ Words.cmpL b a < 0
theorem Words.cmpL_swo (xss : List (List Int)) : Go.Sort.SWO (α := Nat) (ltOf fun i j => Words.cmpL (xss.getD i []) (xss.getD j [])) where
  irrefl x := by
    show decide (Words.cmpL (xss.getD x []) (xss.getD x []) < 0) = false
    rw [Words.cmpL_self]; rfl
  trans x y z h1 h2 := by
    unfold ltOf at *
    simp only [decide_eq_true_eq] at *
    exact Words.cmpL_trans h1 h2
  ntrans x y z h1 h2 := by
    unfold ltOf at *
    simp only [decide_eq_false_iff_not] at *
    intro h3
    by_cases e : Words.cmpL (xss.getD x []) (xss.getD y []) = 0
    · rw [Words.cmpL_eq e] at h3
      exact h2 h3
    · have h4 : Words.cmpL (xss.getD y []) (xss.getD x []) < 0 := by rw [Words.cmpL_neg]; omega
      exact h2 (Words.cmpL_trans h4 h3)
theorem sorted_unique {a b : List (List Int)} (hp : a.Perm b) (ha : Words.Sorted a) (hb : Words.Sorted b) : a = b := by
  refine List.Perm.eq_of_pairwise (le := fun a b => ¬ Words.cmpL b a < 0) ?_ ha hb hp
  intro x y _ _ h1 h2
  rw [Words.cmpL_neg] at h1
  exact Words.cmpL_eq (by omega)
theorem heap_sortWorld {α : Type} [Inhabited α] (enc : α → Value) (w : World) (blk off m : Nat) (dk : Array α) (os : Array Obj) {k : Nat} (hk : k < w.heap.size) (hne : k ≠ blk) : (sortWorld enc w blk off m dk os).heap[k]? = w.heap[k]? := by
  unfold sortWorld
  rw [Go.Sort.heap_grow_old _ _ (by simp; exact hk)]
  unfold Go.Sort.putRow Go.Sort.mapBlock
  simp [Array.getElem?_modify, Ne.symm hne]
theorem below_sortWorld {α : Type} [Inhabited α] (enc : α → Value) {w : World} {B blk : Nat} (hB : B ≤ w.heap.size) (hb : B ≤ blk) (off m : Nat) (dk : Array α) (os : Array Obj) : Below B w (sortWorld enc w blk off m dk os) :=
  ⟨rfl, rfl, rfl, by unfold sortWorld; simp, fun k hk => heap_sortWorld enc w blk off m dk os (by omega) (by omega)⟩
theorem own_sortWorld {α : Type} [Inhabited α] (enc : α → Value) {w : World} {B g n cap : Nat} {T : TypeId} {vs : List Value} (h : Own w B T (.slice (some ⟨g, 0, none⟩) n cap) vs) (m : Nat) (dk : Array α) (os : Array Obj) (hs : dk.size = n) :
    Own (sortWorld enc w g 0 m dk os) B T (.slice (some ⟨g, 0, none⟩) n cap) (dk.toList.map enc) := by
  have hn := h.len
  unfold Own at h ⊢
  rcases h.2 with ⟨he, _⟩ | ⟨g', cap', cur, he, hb, hgg, h1, h2, h3, h4⟩
  · cases he
  · simp only [Value.slice.injEq] at he
    obtain ⟨e1, _, rfl⟩ := he
    obtain rfl : g = g' := by simpa using e1
    have hlt : g < w.heap.size := (Array.getElem?_eq_some_iff.1 hgg).1
    rw [Nat.mul_one] at h3 h4
    refine ⟨by simp, .inr ⟨g, cap, Go.Sort.putCells enc 0 dk cur, by simp [hs], hb, ?_, by simp; omega, h2, by simp [Go.Sort.putCells, h3], ?_⟩⟩
    · unfold sortWorld
      rw [Go.Sort.heap_grow_old _ _ (by simp; exact hlt)]
      unfold Go.Sort.putRow Go.Sort.mapBlock
      rw [Array.getElem?_modify]
      simp [Go.Sort.ahead, hgg, Go.Sort.onCells]
    · simp only [List.length_map, Array.length_toList, Nat.mul_one]
      apply List.ext_getElem?
      intro i
      by_cases hi : i < dk.size
      · rw [List.getElem?_take, if_pos hi, Array.getElem?_toList, List.getElem?_map, Array.getElem?_toList]
        unfold Go.Sort.putCells
        rw [Array.getElem?_mapIdx, Array.getElem?_eq_getElem (show i < cur.size by omega), Option.map_some, if_pos ⟨by omega, by omega⟩, Array.getElem?_eq_getElem hi, Option.map_some, Nat.sub_zero, getElem!_pos dk i hi]
      · rw [List.getElem?_eq_none (by simp; omega), List.getElem?_eq_none (by simp; omega)]
theorem sortRows_c {v : Value} {xss : List (List Int)} {w : World} {B E : Nat} {Q : Ending → World → Prop} (ho : OwnRows w B E v xss) (hB : B ≤ w.heap.size) (hn : 0 < xss.length) (hbig : xss.length ≤ 1048576)
    (hQ : ∀ w' yss, yss.Perm xss → Words.Sorted yss → OwnRows w' B w'.heap.size v yss → Below B w w' → Q (.returned (.tuple #[])) w') :
    Calls Try.prog 99 #[v, .func (.func 53) #[] #[]] w Q := by
  obtain ⟨us, o1, o2, o3⟩ := ho.parts
  obtain ⟨aa, ca, rfl, la, lca, cca⟩ := ho.form
  obtain ⟨g, rfl, hgB, hgl⟩ := Own.head o1 (by have := o3.1; omega)
  have hus := o3.1
  have hul := o1.len
  have one : OneCell fun i : Nat => us.getD i nilV := by
    intro i
    by_cases hi : i < us.length
    · obtain ⟨u, xs, hu, _, hou, _⟩ := o3.get (k := i) (by omega)
      obtain ⟨au, cu, rfl, _, _, _⟩ := Own.form hou
      have : us.getD i nilV = .slice au (ints xs).length cu := by simp [List.getD, hu.out]
      show (us.getD i nilV).oneCell' = true
      rw [this]; rfl
    · have : us.getD i nilV = nilV := by simp [List.getD, List.getElem?_eq_none (show us.length ≤ i by omega)]
      show (us.getD i nilV).oneCell' = true
      rw [this]; rfl
  have read : ∀ (m : Nat) (os : Array Obj) (dk : Array Nat) (i : Nat), IntsAt (sortWorld (fun i : Nat => us.getD i nilV) w g 0 m dk os) (us.getD i nilV) (xss.getD i []) := by
    intro m os dk i
    by_cases hi : i < us.length
    · obtain ⟨u, xs, hu, hx, hou, _⟩ := o3.get (k := i) (by omega)
      have e1 : us.getD i nilV = u := by simp [List.getD, hu.out]
      have e2 : xss.getD i [] = xs := by simp [List.getD, hx.out]
      rw [e1, e2]
      refine OwnInts.at (Own.kept (B := B) hou fun k hk => heap_sortWorld _ _ _ _ _ _ _ (Own.lt hou hk).2 ?_)
      rcases own_types o1 hou (by decide) with e | e
      · rw [e] at hk; cases hk
      · intro h; subst h; exact e hk
    · have e1 : us.getD i nilV = nilV := by simp [List.getD, List.getElem?_eq_none (show us.length ≤ i by omega)]
      have e2 : xss.getD i [] = [] := by simp [List.getD, List.getElem?_eq_none (show xss.length ≤ i by omega)]
      rw [e1, e2]
      exact ⟨none, 0, rfl, Nat.le_refl _, by unfold maxLen; omega, fun _ => rfl, fun k x h => by simp [ints] at h⟩
  have hcmp : CmpLays1 Try.prog 53 #[] (fun i : Nat => us.getD i nilV) (fun i j => Words.cmpL (xss.getD i []) (xss.getD j [])) g 0 xss.length w := by
    intro m os dk hs x y
    exact Compare_c (read m os dk x) (read m os dk y) ⟨rfl, 0, #[], by rw [Go.Sort.grow_empty]; rfl⟩
  have hH : Go.Sort.Holds (fun i : Nat => us.getD i nilV) w g 0 (Array.range xss.length) := by
    intro j hj
    rw [Array.size_range] at hj
    rw [Nat.zero_add, getElem!_pos _ j (by simpa using hj)]
    refine ⟨?_, o1.frozen j⟩
    rw [o1.cell (k := j) (x := us.getD j nilV) (by simp [List.getD, List.getElem?_eq_getElem (show j < us.length by omega)])]
    simp
  have hc := Any.slices_SortFunc Try.sortRows (fun i : Nat => us.getD i nilV) one (fun i j => Words.cmpL (xss.getD i []) (xss.getD j [])) (Words.cmpL_swo xss) 53 #[] g 0 ca (Array.range xss.length) w
    (fun args w => enters_of Try.func53 (by kernel_rfl) rfl args w) (by rw [Array.size_range]; exact hcmp) hH hgl (by rw [Array.size_range]; omega)
  rw [Array.size_range] at hc
  refine hc.mono ?_
  rintro e w' ⟨rfl, d', m, os, hp, hs, rfl⟩
  obtain ⟨hp1, hp2, hp3⟩ := hp
  rw [Array.size_range] at hp1
  have hpl : d'.toList.Perm (List.range xss.length) := by
    have h1 : d'.extract 0 xss.length = d' := by rw [← hp1]; simp
    have h2 : (Array.range xss.length).extract 0 xss.length = Array.range xss.length := by
      conv => lhs; arg 3; rw [← Array.size_range (n := xss.length)]
      simp
    rw [h1, h2] at hp3
    simpa using hp3
  have hnd : d'.toList.Nodup := hpl.nodup_iff.2 List.nodup_range
  have hlt : ∀ i ∈ d'.toList, i < xss.length := fun i hi => List.mem_range.1 (hpl.mem_iff.1 hi)
  refine hQ _ (d'.toList.map fun i => xss.getD i []) ?_ ?_ ?_ (below_sortWorld _ hB hgB _ _ _ _)
  · have := hpl.map fun i => xss.getD i []
    rwa [map_range_getD] at this
  · unfold Words.Sorted
    rw [List.pairwise_map, List.pairwise_iff_getElem]
    intro i j h1 h2 hij
    have := hs i j (Nat.zero_le _) hij (by simp at h2; omega)
    unfold ltOf at this
    rw [decide_eq_false_iff_not] at this
    rw [getElem!_pos d' i (by simpa using h1), getElem!_pos d' j (by simpa using h2)] at this
    simpa using this
  · have ow := own_sortWorld (fun i : Nat => us.getD i nilV) o1 m d' os hp1
    have rw1 : Rows (sortWorld (fun i : Nat => us.getD i nilV) w g 0 m d' os) B E us xss := by
      refine ⟨o3.1, fun k xs hk => ?_, o3.2.2⟩
      obtain ⟨u, a, b, c⟩ := o3.2.1 k xs hk
      refine ⟨u, a, Own.kept b fun q hq => heap_sortWorld _ _ _ _ _ _ _ (Own.lt b hq).2 ?_, c⟩
      rcases own_types o1 b (by decide) with e | e
      · rw [e] at hq; cases hq
      · intro h; subst h; exact e hq
    have rw2 := (rw1.perm hnd hlt).tight
    have := rw2.whole ow (Own.inBlk ow)
    exact this
end Go.Proofs.Ytdibmjijpdliaaa
/- Inserting into an ascending list. No program in sight. -/
set_option linter.unusedVariables false
namespace Go.Proofs.Ytdibmjijpdliaaa.Perms

def ins (l : List (List Int)) (x : List Int) : List (List Int) := l.takeWhile (fun y => decide (Words.cmpL y x < 0)) ++ x :: l.dropWhile (fun y => decide (Words.cmpL y x < 0))
def isort (l : List (List Int)) : List (List Int) := l.foldl ins []
theorem isort_snoc (l : List (List Int)) (x : List Int) : isort (l ++ [x]) = ins (isort l) x := by unfold isort; rw [List.foldl_append]; rfl
theorem isort_take {l : List (List Int)} {j : Nat} {x : List Int} (a : List (List Int)) (h : l[j]? = some x) : isort (a ++ l.take (j + 1)) = ins (isort (a ++ l.take j)) x := by
  rw [List.take_add_one, h, ← isort_snoc, List.append_assoc]; rfl
theorem ins_perm (l : List (List Int)) (x : List Int) : (ins l x).Perm (x :: l) := by
  unfold ins
  have h := List.perm_middle (a := x) (l₁ := l.takeWhile fun y => decide (Words.cmpL y x < 0)) (l₂ := l.dropWhile fun y => decide (Words.cmpL y x < 0))
  rw [List.takeWhile_append_dropWhile] at h
  exact h
theorem isort_perm0 : ∀ (l a : List (List Int)), (l.foldl ins a).Perm (a ++ l)
  | [], a => by simp
  | x :: l, a => by
    have h := isort_perm0 l (ins a x)
    refine h.trans ?_
    refine ((ins_perm a x).append_right l).trans ?_
    exact (List.perm_middle).symm
theorem isort_perm (l : List (List Int)) : (isort l).Perm l := by
  have := isort_perm0 l []
  rw [List.nil_append] at this
  exact this
theorem isort_len (l : List (List Int)) : (isort l).length = l.length := (isort_perm l).length_eq
theorem not_lt_trans {x y z : List Int} (h1 : ¬ Words.cmpL x y < 0) (h2 : ¬ Words.cmpL y z < 0) : ¬ Words.cmpL x z < 0 := by
  intro h3
  by_cases e : Words.cmpL x y = 0
  · rw [Words.cmpL_eq e] at h3
    exact h2 h3
  · have h4 : Words.cmpL y x < 0 := by rw [Words.cmpL_neg]; omega
    exact h2 (Words.cmpL_trans h4 h3)
theorem ins_sorted {l : List (List Int)} {x : List Int} (h : Words.Sorted l) : Words.Sorted (ins l x) := by
  unfold ins Words.Sorted at *
  have h0 : (l.takeWhile (fun y => decide (Words.cmpL y x < 0)) ++ l.dropWhile (fun y => decide (Words.cmpL y x < 0))).Pairwise fun a b => ¬ Words.cmpL b a < 0 := by rw [List.takeWhile_append_dropWhile]; exact h
  rw [List.pairwise_append] at h0
  obtain ⟨h1, h2, h3⟩ := h0
  have htw : ∀ y ∈ l.takeWhile (fun y => decide (Words.cmpL y x < 0)), Words.cmpL y x < 0 := fun y hy => of_decide_eq_true (List.all_eq_true.1 List.all_takeWhile y hy)
  have hdw : ∀ y ∈ l.dropWhile (fun y => decide (Words.cmpL y x < 0)), ¬ Words.cmpL y x < 0 := by
    cases hd : l.dropWhile (fun y => decide (Words.cmpL y x < 0)) with
    | nil => intro y hy; cases hy
    | cons z zs =>
      have hz : ¬ Words.cmpL z x < 0 := by
        have hne : l.dropWhile (fun y => decide (Words.cmpL y x < 0)) ≠ [] := by rw [hd]; simp
        have := List.head_dropWhile_not (fun y => decide (Words.cmpL y x < 0)) hne
        simp [hd] at this
        omega
      rw [hd, List.pairwise_cons] at h2
      intro y hy
      rcases List.mem_cons.1 hy with rfl | hy
      · exact hz
      · exact not_lt_trans (h2.1 y hy) hz
  rw [List.pairwise_append, List.pairwise_cons]
  refine ⟨h1, ⟨hdw, h2⟩, fun a ha b hb => ?_⟩
  rcases List.mem_cons.1 hb with rfl | hb
  · have := htw a ha
    rw [Words.cmpL_neg]; omega
  · exact h3 a ha b hb
theorem isort_sorted0 : ∀ (l a : List (List Int)), Words.Sorted a → Words.Sorted (l.foldl ins a)
  | [], a, h => h
  | x :: l, a, h => isort_sorted0 l (ins a x) (ins_sorted h)
theorem isort_sorted (l : List (List Int)) : Words.Sorted (isort l) := isort_sorted0 l [] List.Pairwise.nil
/-- Where the first element stands that is not less. -/
theorem ins_at {l : List (List Int)} {x : List Int} {i : Nat} (hi : i ≤ l.length) (h1 : ∀ (t : Nat) y, t < i → l[t]? = some y → Words.cmpL y x < 0) (h2 : ∀ y, l[i]? = some y → ¬ Words.cmpL y x < 0) : ins l x = l.take i ++ x :: l.drop i := by
  have e : l.takeWhile (fun y => decide (Words.cmpL y x < 0)) = l.take i := by
    conv => lhs; rw [← List.take_append_drop i l]
    rw [List.takeWhile_append_of_pos]
    · cases hd : l.drop i with
      | nil => simp
      | cons z zs =>
        have hz := h2 z (by have := congrArg List.head? hd; rw [List.head?_drop] at this; exact this)
        simp [hz]
    · intro y hy
      obtain ⟨t, ht⟩ := List.getElem?_of_mem hy
      rw [List.getElem?_take] at ht
      split at ht
      · rename_i h
        exact decide_eq_true (h1 t y h ht)
      · cases ht
  unfold ins
  have e2 : l.dropWhile (fun y => decide (Words.cmpL y x < 0)) = l.drop i := by
    have h := List.takeWhile_append_dropWhile (p := fun y => decide (Words.cmpL y x < 0)) (l := l)
    rw [e] at h
    have h3 : l.take i ++ l.dropWhile (fun y => decide (Words.cmpL y x < 0)) = l.take i ++ l.drop i := by rw [h, List.take_append_drop]
    exact List.append_cancel_left h3
  rw [e, e2]
end Go.Proofs.Ytdibmjijpdliaaa.Perms
/- The group that some permutations make, element by element. No program in sight. -/
set_option linter.unusedVariables false
namespace Go.Proofs.Ytdibmjijpdliaaa.Perms

/-- A list of n points out of n. -/
def inR (n : Nat) (p : List Int) : Prop := p.length = n ∧ ∀ x ∈ p, 0 ≤ x ∧ x < n
theorem inR_iota (n : Nat) : inR n (iota n) := ⟨iota_len n, fun x hx => by
  unfold iota at hx
  obtain ⟨k, hk, rfl⟩ := List.mem_map.1 hx
  have := List.mem_range.1 hk
  omega⟩
theorem inR_comp {n : Nat} {p q : List Int} (hp : inR n p) (hq : inR n q) : inR n (comp p q) := by
  refine ⟨by rw [comp_len]; exact hp.1, fun x hx => ?_⟩
  unfold comp at hx
  obtain ⟨y, hy, rfl⟩ := List.mem_map.1 hx
  have h := hp.2 y hy
  have hl : y.toNat < q.length := by rw [hq.1]; omega
  have : q.getD y.toNat 0 = q[y.toNat] := by simp [List.getD, List.getElem?_eq_getElem hl]
  rw [this]
  exact hq.2 _ (List.getElem_mem hl)
theorem permB_inR {p : List Int} (h : permB p = true) : inR p.length p := ⟨rfl, permB_range h⟩
/-- One product: it is there already; or there is no room; or it is the next one. -/
def stepG (o : Option (List (List Int))) (q : List Int) : Option (List (List Int)) := o.bind fun out => if q ∈ out then some out else if out.length = 120 then none else some (out ++ [q])
def rowTo (gens : List (List Int)) (p : List Int) (out : List (List Int)) (t : Nat) : Option (List (List Int)) := (gens.take t).foldl (fun o s => stepG o (comp p s)) (some out)
def bfs (gens : List (List Int)) : Nat → Nat → List (List Int) → Option (List (List Int))
  | 0, _, out => some out
  | f + 1, a, out => match out[a]? with
    | none => some out
    | some p => (rowTo gens p out gens.length).bind (bfs gens f (a + 1))
def gokB (n : Int) (gens : List (List Int)) : Bool := decide (1 ≤ n ∧ n ≤ 10) && gens.all fun p => permB p && decide ((p.length : Int) = n)
def gofO (n : Int) (gens : List (List Int)) : Option (List (List Int)) := if gokB n gens = true then bfs gens 121 0 [iota n.toNat] else none
def gofW (n : Int) (gens : List (List Int)) : List (List Int) := ((gofO n gens).map isort).getD []
def gofB (n : Int) (gens : List (List Int)) : Bool := (gofO n gens).isSome
theorem foldl_none (p : List Int) : ∀ l : List (List Int), l.foldl (fun o s => stepG o (comp p s)) none = none
  | [] => rfl
  | s :: l => foldl_none p l
theorem rowTo_step {gens : List (List Int)} {p s : List Int} {out : List (List Int)} {t : Nat} (hs : gens[t]? = some s) : rowTo gens p out (t + 1) = stepG (rowTo gens p out t) (comp p s) := by
  unfold rowTo
  rw [List.take_add_one, hs, List.foldl_append]
  rfl
theorem rowTo_none {gens : List (List Int)} {p : List Int} {out : List (List Int)} {t : Nat} (h : rowTo gens p out t = none) : rowTo gens p out gens.length = none := by
  unfold rowTo at h ⊢
  have e : gens.take gens.length = gens.take t ++ gens.drop t := by rw [List.take_length, List.take_append_drop]
  rw [e, List.foldl_append, h, foldl_none]
theorem bfs_row {gens out : List (List Int)} {p : List Int} {f a : Nat} (h : out[a]? = some p) : bfs gens (f + 1) a out = (rowTo gens p out gens.length).bind (bfs gens f (a + 1)) := by
  simp only [bfs]
  rw [h]
theorem bfs_end {gens out : List (List Int)} {f a : Nat} (h : out.length ≤ a) : bfs gens (f + 1) a out = some out := by
  simp only [bfs]
  rw [List.getElem?_eq_none h]
/-- What holds of the list all the way. -/
structure GofInv (n : Nat) (out : List (List Int)) : Prop where
  nd : out.Nodup
  rg : ∀ p ∈ out, inR n p
  le : out.length ≤ 120
theorem GofInv.start {n : Nat} : GofInv n [iota n] := ⟨by simp, fun p hp => by rw [List.mem_singleton] at hp; rw [hp]; exact inR_iota n, by simp⟩
theorem GofInv.add {n : Nat} {out : List (List Int)} {q : List Int} (h : GofInv n out) (hq : inR n q) (hm : q ∉ out) (hl : out.length ≠ 120) : GofInv n (out ++ [q]) := by
  refine ⟨?_, fun p hp => ?_, ?_⟩
  · rw [List.nodup_append]
    refine ⟨h.nd, by simp, fun a ha b hb e => ?_⟩
    rw [List.mem_singleton] at hb
    subst e; subst hb
    exact hm ha
  · rcases List.mem_append.1 hp with hp | hp
    · exact h.rg p hp
    · rw [List.mem_singleton] at hp; rw [hp]; exact hq
  · have := h.le
    rw [List.length_append, List.length_singleton]
    omega
theorem gok_parts {n : Int} {gens : List (List Int)} (h : gokB n gens = true) : 1 ≤ n ∧ n ≤ 10 ∧ ∀ p ∈ gens, permB p = true ∧ (p.length : Int) = n := by
  unfold gokB at h
  simp only [Bool.and_eq_true, decide_eq_true_eq, List.all_eq_true] at h
  exact ⟨h.1.1, h.1.2, h.2⟩
theorem gok_inR {n : Nat} {gens : List (List Int)} (h : gokB n gens = true) : ∀ p ∈ gens, inR n p := fun p hp => by
  obtain ⟨_, _, h3⟩ := gok_parts h
  obtain ⟨h4, h5⟩ := h3 p hp
  have e : p.length = n := by omega
  have := permB_inR h4
  rwa [e] at this
/-- Of a list without repetitions the sorted one ascends strictly. -/
theorem isort_asc {l : List (List Int)} (h : l.Nodup) : Asc (isort l) := by
  rw [Asc.pairwise]
  have h1 := isort_sorted l
  have h2 : (isort l).Nodup := (isort_perm l).nodup_iff.2 h
  rw [List.nodup_iff_pairwise_ne] at h2
  unfold Words.Sorted at h1
  refine (List.pairwise_and_iff.2 ⟨h1, h2⟩).imp ?_
  rintro a b ⟨h3, h4⟩
  have h5 := Words.cmpL_neg a b
  by_cases e : Words.cmpL a b = 0
  · exact absurd (Words.cmpL_eq e) h4
  · omega
theorem isort_mem {l : List (List Int)} {x : List Int} : x ∈ isort l ↔ x ∈ l := (isort_perm l).mem_iff
end Go.Proofs.Ytdibmjijpdliaaa.Perms
/- The values of an outer row, where rows may be shared; inserting a row. -/
set_option linter.unusedVariables false
namespace Go.Proofs.Ytdibmjijpdliaaa
open Go.RowKit

/-- The values us are slices of integers of the call's own that hold xss. -/
def Vals (w : World) (B : Nat) (us : List Value) (xss : List (List Int)) : Prop :=
  us.length = xss.length ∧ ∀ (k : Nat) (xs : List Int), xss[k]? = some xs → ∃ u, us[k]? = some u ∧ OwnInts w B u xs
theorem Vals.below {w w' : World} {B : Nat} {us : List Value} {xss : List (List Int)} (h : Vals w B us xss) (hb : Below w.heap.size w w') : Vals w' B us xss :=
  ⟨h.1, fun k xs hk => by
    obtain ⟨u, a, b⟩ := h.2 k xs hk
    exact ⟨u, a, OwnInts.below b hb⟩⟩
theorem Vals.drawn {w w' : World} {B : Nat} {us : List Value} {xss : List (List Int)} (h : Vals w B us xss) (hd : Drawn w w') : Vals w' B us xss :=
  ⟨h.1, fun k xs hk => by
    obtain ⟨u, a, b⟩ := h.2 k xs hk
    exact ⟨u, a, OwnInts.drawn b hd⟩⟩
theorem Vals.outer {w w' : World} {B : Nat} {us : List Value} {xss : List (List Int)} (h : Vals w B us xss) {B' : Nat} {v : Value} {zs : List Value} (ho : Own w B' 25 v zs) (hg : w.grownBy w' v.ownBlock) : Vals w' B us xss :=
  ⟨h.1, fun k xs hk => by
    obtain ⟨u, a, b⟩ := h.2 k xs hk
    exact ⟨u, a, Own.grown b hg (own_types ho b (by decide))⟩⟩
theorem Vals.push {w : World} {B : Nat} {us : List Value} {xss : List (List Int)} (h : Vals w B us xss) {u : Value} {xs : List Int} (hu : OwnInts w B u xs) : Vals w B (us ++ [u]) (xss ++ [xs]) := by
  refine ⟨by simp [h.1], fun k zs hk => ?_⟩
  by_cases e : k < xss.length
  · rw [List.getElem?_append_left e] at hk
    obtain ⟨z, a, b⟩ := h.2 k zs hk
    exact ⟨z, by rw [List.getElem?_append_left (by have := h.1; omega)]; exact a, b⟩
  · have hk' := (List.getElem?_eq_some_iff.1 hk).1
    rw [List.length_append, List.length_singleton] at hk'
    obtain rfl : k = xss.length := by omega
    rw [List.getElem?_append_right (Nat.le_refl _), Nat.sub_self] at hk
    simp at hk
    subst hk
    exact ⟨u, by rw [← h.1, List.getElem?_append_right (Nat.le_refl _), Nat.sub_self]; rfl, hu⟩
theorem Vals.ints {w : World} {B : Nat} {us : List Value} {xss : List (List Int)} (h : Vals w B us xss) : ∀ (k : Nat) (xs : List Int), xss[k]? = some xs → ∃ u, us[k]? = some u ∧ IntsAt w u xs := fun k xs hk => by
  obtain ⟨u, a, b⟩ := h.2 k xs hk
  exact ⟨u, a, OwnInts.at b⟩
theorem Vals.at {w : World} {B B' : Nat} {v : Value} {us : List Value} {xss : List (List Int)} (h : Vals w B us xss) (ho : Own w B' 25 v us) : RowsAt w v xss := ⟨us, Own.row ho, h.1, h.ints⟩
theorem Rows.vals {w : World} {B E : Nat} {us : List Value} {xss : List (List Int)} (h : Rows w B E us xss) : Vals w B us xss := ⟨h.1, fun k xs hk => by
  obtain ⟨u, a, b, _⟩ := h.2.1 k xs hk
  exact ⟨u, a, b⟩⟩
theorem Rows.pw {us : List Value} : (∀ (i j : Nat) (u u' : Value), i < j → us[i]? = some u → us[j]? = some u' → apart u u') ↔ us.Pairwise apart := by
  rw [List.pairwise_iff_getElem]
  constructor
  · intro h i j hi hj hij
    exact h i j _ _ hij (List.getElem?_eq_getElem hi) (List.getElem?_eq_getElem hj)
  · intro h i j u u' hij hu hu'
    obtain ⟨h1, rfl⟩ := List.getElem?_eq_some_iff.1 hu
    obtain ⟨h2, rfl⟩ := List.getElem?_eq_some_iff.1 hu'
    exact h i j h1 h2 hij
theorem ins_get {α : Type} {l : List α} {x : α} {i k : Nat} (hi : i ≤ l.length) : ((l.take i ++ [x]) ++ l.drop i)[k]? = if k < i then l[k]? else if k = i then some x else l[k - 1]? := by
  rw [List.append_assoc, List.singleton_append]
  by_cases h1 : k < i
  · rw [if_pos h1, List.getElem?_append_left (by rw [List.length_take]; omega), List.getElem?_take, if_pos h1]
  · rw [if_neg h1, List.getElem?_append_right (by rw [List.length_take]; omega), List.length_take, Nat.min_eq_left hi]
    by_cases h2 : k = i
    · rw [if_pos h2, h2, Nat.sub_self, List.getElem?_cons_zero]
    · rw [if_neg h2]
      obtain ⟨d, hd⟩ : ∃ d, k - i = d + 1 := ⟨k - i - 1, by omega⟩
      rw [hd, List.getElem?_cons_succ, List.getElem?_drop]
      congr 1
      omega
/-- A new row put among the others. -/
theorem Rows.ins {w : World} {B E : Nat} {us : List Value} {xss : List (List Int)} (h : Rows w B E us xss) {u : Value} {xs : List Int} (hu : OwnInts w B u xs) (hf : ∀ b, u.ownBlock = some b → E ≤ b) {i : Nat} (hi : i ≤ xss.length) : Rows w B w.heap.size ((us.take i ++ [u]) ++ us.drop i) ((xss.take i ++ [xs]) ++ xss.drop i) := by
  have hp := h.push hu hf
  have hul := h.1
  refine ⟨by simp [hul], fun k zs hk => ?_, ?_⟩
  · rw [ins_get hi] at hk
    by_cases h1 : k < i
    · rw [if_pos h1] at hk
      obtain ⟨z, a, b, c⟩ := h.2.1 k zs hk
      exact ⟨z, by rw [ins_get (by omega), if_pos h1]; exact a, b, Own.inBlk b⟩
    · rw [if_neg h1] at hk
      by_cases h2 : k = i
      · rw [if_pos h2] at hk
        cases hk
        exact ⟨u, by rw [ins_get (by omega), if_neg h1, if_pos h2], hu, Own.inBlk hu⟩
      · rw [if_neg h2] at hk
        obtain ⟨z, a, b, c⟩ := h.2.1 _ zs hk
        exact ⟨z, by rw [ins_get (by omega), if_neg h1, if_neg h2]; exact a, b, Own.inBlk b⟩
  · rw [Rows.pw]
    have h3 := Rows.pw.1 hp.2.2
    refine (List.Perm.pairwise_iff (fun {x y} h => apart.symm h) ?_).1 h3
    have e : us ++ [u] = (us.take i ++ us.drop i) ++ [u] := by rw [List.take_append_drop]
    rw [e, List.append_assoc, List.append_assoc]
    exact List.Perm.append_left _ List.perm_append_comm
end Go.Proofs.Ytdibmjijpdliaaa
/- The subsets of four points, as the reference lists them. -/
set_option linter.unusedVariables false
namespace Go.Proofs.Ytdibmjijpdliaaa
open Go.RowKit

def Perms.subs : Nat → Nat → List (List Int)
  | 0, _ => [[]]
  | k + 1, a => (List.range (4 - a)).flatMap fun i => (Perms.subs k (a + i + 1)).map fun r => ((a + i : Nat) : Int) :: r
def Perms.subsTo (k a j : Nat) : List (List Int) := (List.range j).flatMap fun i => (Perms.subs k (a + i + 1)).map fun r => ((a + i : Nat) : Int) :: r
theorem Perms.subsTo_step (k a j : Nat) : Perms.subsTo k a (j + 1) = Perms.subsTo k a j ++ (Perms.subs k (a + j + 1)).map fun r => ((a + j : Nat) : Int) :: r := by
  unfold Perms.subsTo
  rw [List.range_succ, List.flatMap_append]
  simp
theorem Perms.subs_small : ∀ k ∈ List.range 3, ∀ a ∈ List.range 7, (Perms.subs k a).length ≤ 16 ∧ ∀ r ∈ Perms.subs k a, r.length = k := by decide +kernel
theorem Perms.subsTo_small : ∀ k ∈ List.range 2, ∀ a ∈ List.range 6, ∀ j ∈ List.range 5, a + j ≤ 4 → (Perms.subsTo k a j).length ≤ 16 := by decide +kernel
theorem own_int_one (w : World) (x : Int) : OwnInts (w.alloc (.cells #[.int .i64 x] 3)) w.heap.size (.slice (some ⟨w.heap.size, 0, none⟩) 1 1) [x] :=
  World.ownsRow_lit (size := 1) w #[.int .i64 x] 1 (Nat.le_refl _) (by unfold maxLen; omega) rfl
end Go.Proofs.Ytdibmjijpdliaaa
/- The image of a subset, as the reference finds it. -/
set_option linter.unusedVariables false
namespace Go.Proofs.Ytdibmjijpdliaaa
open Go.RowKit

/-- 'append(s, x)' of one integer, with what is known of the new block. -/
theorem app_int_val {w : World} {ops : Array Oper} {rest : List Oper} {o : Oper} {a : Act} {Q : Exit → Act → World → Prop} (hg : o.guard = none) (s x : Operand) (hop : o.op = .call { callee := .builtin .append, args := #[s, x], argTypes := #[25, 25] })
    {B g n cap : Nat} {u : Value} {us : List Value} (hs : a.eval s = .slice (some ⟨g, 0, none⟩) n cap) (hown : Own w B 3 (.slice (some ⟨g, 0, none⟩) n cap) us) {ad : Addr} {c : Nat} (hx : a.eval x = .slice (some ad) 1 c) (hu : w.cell? ad = some u)
    (h1 : u.oneCell' = true) (hn : us.length + 1 ≤ 1099511627776) (hB : B ≤ w.heap.size)
    (hK : ∀ g' cap' w', Own w' B 3 (.slice (some ⟨g', 0, none⟩) (n + 1) cap') (us ++ [u]) → w.grownBy w' (some g) → (g' = g ∨ w.heap.size ≤ g') → wpList Try.prog ops Q rest (a.put o.dst (.slice (some ⟨g', 0, none⟩) (n + 1) cap')) w') :
    wpList Try.prog ops Q (o :: rest) a w := by
  obtain ⟨i0, hi, hz0, hz1, hz2⟩ := info_parts Try.infoInt
  obtain rfl := hown.len
  have hc1 : ∀ (j : Nat) (y : Value), [u][j]? = some y → w.cell? (ad.add j) = some y := by
    intro j y hy
    match j, hy with
    | 0, hy =>
      simp at hy; subst hy
      have : ad.add 0 = ad := by unfold Addr.add; split <;> simp_all
      rw [this]; exact hu
  have ho1 : ∀ y ∈ [u], y.oneCell' = true := by intro y hy; simp at hy; subst hy; exact h1
  by_cases hr : us.length + 1 ≤ cap
  · refine wpList_append_own_spare w hg s x 25 hop B 3 i0 1 Try.underlying25 hi hz1 g us.length cap us hs hown ad 1 c [u] hx rfl hc1 ho1 hr ?_
    intro w' h2 h3
    have e : (us ++ [u]).length = us.length + 1 := by simp
    exact hK g cap w' (by unfold Own; rw [e]; exact h2) h3 (.inl rfl)
  · refine wpList_append_arg w hg s x 25 hop 3 i0 (.int .i64 0) 1 8 Try.underlying25 hi hz0 hz1 hz2 rfl (by decide) g 0 us.length cap us hs (by simp) (fun j y hy => by rw [Nat.zero_add]; exact hown.cell hy) ad 1 c [u] hx rfl hc1 ho1
      (fun h => absurd h hr) (by unfold maxLen; omega) (by omega) (fun h => absurd h hr) ?_
    intro _ v' w' h2 h3
    have h2' : Own w' w.heap.size 3 v' (us ++ [u]) := by unfold Own; rw [List.length_append]; exact h2
    obtain ⟨ao, c', rfl, _, _, _⟩ := Own.form h2'
    obtain ⟨g', rfl, hg1, hg2⟩ := h2'.head (by simp)
    have e : (us ++ [u]).length = us.length + 1 := by simp
    rw [e] at h2'
    have h4 := hK g' c' w' (h2'.mono hB) ⟨h3.os, h3.tape, h3.output, h3.size, fun k hk _ => h3.block k hk (by simp)⟩ (.inr hg1)
    rw [e]
    exact h4
theorem BoolsIn.grown {w w' : World} {b n : Nat} {T : TypeId} {P : Nat → Bool} (h : BoolsIn w b T n P) {row : Option Nat} (hg : w.grownBy w' row) (hr : row ≠ some b) : BoolsIn w' b T n P := by
  obtain ⟨arr, h1, h2, h3⟩ := h
  exact ⟨arr, by rw [hg.block b (Array.getElem?_eq_some_iff.1 h1).1 (fun e => hr e.symm)]; exact h1, h2, h3⟩
/-- The points to which the points of l are carried, in order. -/
def Perms.img (p l : List Int) : List Int := l.map fun a => p.getD a.toNat 0
def Perms.imgTo (p l : List Int) (j : Nat) : List Int := ((List.range j).filter fun (i : Nat) => decide ((i : Int) ∈ Perms.img p l)).map fun (i : Nat) => (i : Int)
theorem Perms.imgTo_step (p l : List Int) (j : Nat) : Perms.imgTo p l (j + 1) = if (j : Int) ∈ Perms.img p l then Perms.imgTo p l j ++ [(j : Int)] else Perms.imgTo p l j := by
  unfold Perms.imgTo
  rw [List.range_succ, List.filter_append]
  by_cases h : (j : Int) ∈ Perms.img p l
  · simp [h]
  · simp [h]
theorem Perms.imgTo_len (p l : List Int) (j : Nat) : (Perms.imgTo p l j).length ≤ j := by
  unfold Perms.imgTo
  rw [List.length_map]
  have := List.length_filter_le (fun (i : Nat) => decide ((i : Int) ∈ Perms.img p l)) (List.range j)
  rw [List.length_range] at this
  exact this
end Go.Proofs.Ytdibmjijpdliaaa
/- The cycles of a permutation, as both sides walk them. -/
set_option linter.unusedVariables false
namespace Go.Proofs.Ytdibmjijpdliaaa
open Go.RowKit

/-- What was seen: points, each once. -/
def Perms.Seen (n : Nat) (s : List Nat) : Prop := s.Nodup ∧ ∀ x ∈ s, x < n
theorem Perms.Seen.len {n : Nat} {s : List Nat} (h : Perms.Seen n s) : s.length ≤ n := by
  have := Perms.subset_len h.1 (fun x hx => List.mem_range.2 (h.2 x hx))
  rwa [List.length_range] at this
theorem Perms.Seen.push {n a : Nat} {s : List Nat} (h : Perms.Seen n s) (ha : a < n) (hs : a ∉ s) : Perms.Seen n (s ++ [a]) := by
  refine ⟨?_, fun x hx => ?_⟩
  · rw [List.nodup_append]
    refine ⟨h.1, by simp, fun x hx y hy => ?_⟩
    rw [List.mem_singleton] at hy
    subst hy
    intro e
    subst e
    exact hs hx
  · rcases List.mem_append.1 hx with hx | hx
    · exact h.2 x hx
    · rw [List.mem_singleton] at hx
      omega
theorem Perms.cycW_seen {p : List Int} (hR : Perms.inR p.length p) : ∀ (f a : Nat) (s : List Nat) (row : List Int), Perms.Seen p.length s → a < p.length → Perms.Seen p.length (Perms.cycW p f a s row).1
  | 0, a, s, row, h, _ => h
  | f + 1, a, s, row, h, ha => by
    unfold Perms.cycW
    by_cases hs : a ∈ s
    · rw [if_pos hs]; exact h
    · rw [if_neg hs]
      refine Perms.cycW_seen hR f _ _ _ (h.push ha hs) ?_
      have h2 := hR.2 (p.getD a 0) (by rw [List.getD, List.getElem?_eq_getElem ha]; exact List.getElem_mem ha)
      omega
theorem Perms.cycTo_seen {p : List Int} (hR : Perms.inR p.length p) : ∀ j, j ≤ p.length → Perms.Seen p.length (Perms.cycTo p j).1
  | 0, _ => ⟨by simp [Perms.cycTo], by simp [Perms.cycTo]⟩
  | j + 1, hj => by
    have ih := Perms.cycTo_seen hR j (by omega)
    unfold Perms.cycTo
    by_cases hs : j ∈ (Perms.cycTo p j).1
    · rw [if_pos hs]; exact ih
    · rw [if_neg hs]
      exact Perms.cycW_seen hR _ _ _ _ ih (by omega)
theorem Perms.cycW_row {p : List Int} : ∀ (f a : Nat) (s : List Nat) (row : List Int), (Perms.cycW p f a s row).2.length + s.length = row.length + (Perms.cycW p f a s row).1.length
  | 0, a, s, row => by simp [Perms.cycW]; 
  | f + 1, a, s, row => by
    unfold Perms.cycW
    by_cases hs : a ∈ s
    · rw [if_pos hs]
    · rw [if_neg hs]
      have := Perms.cycW_row (p := p) f (p.getD a 0).toNat (s ++ [a]) (row ++ [(a : Int)])
      simp only [List.length_append, List.length_singleton] at this
      omega
theorem Perms.cycTo_len (p : List Int) : ∀ j, (Perms.cycTo p j).2.length ≤ j
  | 0 => by simp [Perms.cycTo]
  | j + 1 => by
    have ih := Perms.cycTo_len p j
    unfold Perms.cycTo
    by_cases hs : j ∈ (Perms.cycTo p j).1
    · rw [if_pos hs]; omega
    · rw [if_neg hs]; simp; omega
/-- A store into the flags leaves the rows. -/
theorem BoolsIn.keepOwn {w : World} {b n B k : Nat} {T : TypeId} {P : Nat → Bool} (h : BoolsIn w b 4 n P) {v : Value} {xs : List Value} (ho : Own w B T v xs) (hT : T ≠ 4) (u : Value) : Own (w.setCell ⟨b, k, none⟩ u) B T v xs :=
  Own.setOther ho u (fun e => by
    obtain ⟨cur, hc⟩ := Own.block ho e
    obtain ⟨arr, h1, _⟩ := h
    rw [h1] at hc
    simp only [Option.some.injEq, Obj.cells.injEq] at hc
    exact hT hc.2.1.symm)
theorem BoolsIn.keepRows {w : World} {b n B E k : Nat} {P : Nat → Bool} (h : BoolsIn w b 4 n P) {us : List Value} {xss : List (List Int)} (hr : Rows w B E us xss) (u : Value) : Rows (w.setCell ⟨b, k, none⟩ u) B E us xss :=
  ⟨hr.1, fun i xs hi => by
    obtain ⟨z, h1, h2, h3⟩ := hr.2.1 i xs hi
    exact ⟨z, h1, h.keepOwn h2 (by decide) u, h3⟩, hr.2.2⟩
theorem BoolsIn.apartOf {w : World} {b n B : Nat} {T : TypeId} {P : Nat → Bool} (h : BoolsIn w b 4 n P) {v : Value} {xs : List Value} (ho : Own w B T v xs) (hT : T ≠ 4) : v.ownBlock ≠ some b := fun e => by
  obtain ⟨cur, hc⟩ := Own.block ho e
  obtain ⟨arr, h1, _⟩ := h
  rw [h1] at hc
  simp only [Option.some.injEq, Obj.cells.injEq] at hc
  exact hT hc.2.1.symm
end Go.Proofs.Ytdibmjijpdliaaa
/- The cycles of a permutation: both sides (printed by mk/mkcyc.py). -/
set_option linter.unusedVariables false
namespace Go.Proofs.Ytdibmjijpdliaaa
open Go.RowKit

set_option maxHeartbeats 3200000 in
theorem CyclesOf_i {vp : Value} {p : List Int} {w : World} {Q : Ending → World → Prop} (hp : IntsAt w vp p)
    (hQ : ∀ v w', OwnRows w' w.heap.size w'.heap.size v (Perms.cycles p) → Below w.heap.size w w' → Q (.returned v) w') :
    Calls Try.prog 67 #[vp] w Q := by
  have H := Lib.hid hQ; clear hQ
  have hp0 := Lib.hid hp
  obtain ⟨ap, cp, rfl, lp, lcp, ccp⟩ := hp.form
  clear hp
  by_cases hok : Perms.permB p = true
  rotate_left
  · have hf : Perms.permB p = false := by simpa using hok
    have hf' := Lib.hid hf
    have hc : Hid (Perms.cycles p = []) := Lib.hid (by unfold Perms.cycles; rw [if_neg hok])
    clear hok hf
    go_enter Try.func67, Try.ntmps67
    go_wp2_with fail
    refine PermOk_i hp0.out ?_
    intro w1 b1
    rw [hf'.out]
    have h3 := Lib.hid (H.out (.slice none 0 0) w1 (by rw [hc.out]; exact OwnRows.nil _ _ _) b1)
    go_wp2_with fail
    exact h3.out
  have hpl := Perms.permB_len hok
  have hR : Perms.inR p.length p := ⟨rfl, Perms.permB_range hok⟩
  have hR' := Lib.hid hR
  have hok' := Lib.hid hok
  have hc : Hid (Perms.cycles p = (Perms.cycTo p p.length).2) := Lib.hid (by unfold Perms.cycles; rw [if_pos hok])
  clear hok hR
  go_enter Try.func67, Try.ntmps67
  go_wp2_with fail
  refine PermOk_i hp0.out ?_
  intro w1 b1
  rw [hok'.out]
  have o0 := own_outer_empty w1
  have b0 := below_alloc w1 (.cells #[] 25)
  have bw0 := b1.trans (b0.mono b1.size)
  go_wp2_with (at_make; refine mk_bools rfl (.tmp 13) (.tmp 13) rfl rfl rfl p.length rfl (by omega) ?_; intro w2 hB2 hb2 hs2)
  obtain ⟨bb, hbb⟩ : ∃ bb, bb = (w1.alloc (.cells #[] 25)).heap.size := ⟨_, rfl⟩
  have hbb2 : w.heap.size ≤ bb := by have := b1.size; rw [hbb]; simp; omega
  have hbb3 : bb = w1.heap.size + 1 := by rw [hbb]; simp
  have hB2' : Hid (BoolsIn w2 bb 4 p.length (fun i => decide (i ∈ (Perms.cycTo p 0).1))) := Lib.hid (by rw [hbb]; exact hB2.congr (fun i hi => by simp [Perms.cycTo]))
  have o2 : Own w2 w.heap.size 25 (.slice (some ⟨w1.heap.size, 0, none⟩) 0 0) [] := Own.mono (Own.below o0 hb2) b1.size
  have bw2 := bw0.trans (hb2.mono bw0.size)
  have R0 : Hid (Rows w2 w.heap.size w2.heap.size [] (Perms.cycTo p 0).2) := Lib.hid (Rows.nil w2 w.heap.size w2.heap.size)
  rw [← hbb3]
  clear hB2 o0 hbb hbb3
  go_wp2_with fail
  go_loopg [3, 17] p.length (fun gg u3 u17 wr => ∃ (j : Nat) (us : List Value), u17 = .int .i64 j ∧ Own wr w.heap.size 25 u3 us ∧ Hid (Rows wr w.heap.size wr.heap.size us (Perms.cycTo p j).2) ∧ Hid (BoolsIn wr bb 4 p.length (fun i => decide (i ∈ (Perms.cycTo p j).1))) ∧ Below w.heap.size w wr ∧ j + gg ≤ p.length ∧ p.length ≤ j + gg)
  case atStart => exact ⟨0, [], rfl, o2, R0, hB2', bw2, by omega, by omega⟩
  case round =>
    obtain ⟨j, us, rfl, oj, rj, Bj, bj, hj1, hj2⟩ := hrel
    obtain ⟨gk1, hgk1⟩ : ∃ g, g = gk := ⟨_, rfl⟩
    obtain ⟨a3, c3, rfl, _, _, _⟩ := Own.form oj
    have hul : us.length ≤ 10 := by have := Perms.cycTo_len p j; rw [rj.out.1]; omega
    by_cases hj : j < p.length
    · have hjI : (j : Int) < p.length := by omega
      have hcb := Bj.out.cell hj
      have hseen := Lib.hid (Perms.cycTo_seen hR'.out j (by omega))
      have hst : Perms.cycTo p (j + 1) = if j ∈ (Perms.cycTo p j).1 then Perms.cycTo p j else ((Perms.cycW p (p.length + 1 - (Perms.cycTo p j).1.length) j (Perms.cycTo p j).1 []).1, (Perms.cycTo p j).2 ++ [(Perms.cycW p (p.length + 1 - (Perms.cycTo p j).1.length) j (Perms.cycTo p j).1 []).2]) := rfl
      by_cases hm : j ∈ (Perms.cycTo p j).1
      · rw [if_pos hm] at hst
        have hst' := Lib.hid hst
        rw [decide_eq_true hm] at hcb
        have rj' : Hid (Rows wr w.heap.size wr.heap.size us (Perms.cycTo p (j + 1)).2) := Lib.hid (by rw [hst'.out]; exact rj.out)
        have Bj' : Hid (BoolsIn wr bb 4 p.length (fun i => decide (i ∈ (Perms.cycTo p (j + 1)).1))) := Lib.hid (by rw [hst'.out]; exact Bj.out)
        clear hst hm
        go_wp2_with fail
        go_roundg (gk1 - 1)
        case measure => omega
        case rel => exact ⟨j + 1, us, by go_num, oj, rj', Bj', bj, by omega, by omega⟩
      · rw [if_neg hm] at hst
        rw [decide_eq_false hm] at hcb
        have hslt : (Perms.cycTo p j).1.length < p.length := by
          have h := (hseen.out.push hj hm).len
          rw [List.length_append, List.length_singleton] at h
          omega
        obtain ⟨R, hRe⟩ : ∃ R, R = Perms.cycW p (p.length + 1 - (Perms.cycTo p j).1.length) j (Perms.cycTo p j).1 [] := ⟨_, rfl⟩
        rw [← hRe] at hst
        have hst' := Lib.hid hst
        have hR0 : Hid (Perms.cycW p (p.length + 1 - (Perms.cycTo p j).1.length) j (Perms.cycTo p j).1 [] = R) := Lib.hid hRe.symm
        clear hst hRe
        go_wp2_with fail
        have o1 := own_empty wr
        have b1' := below_alloc wr (.cells #[] 3)
        obtain ⟨V, hV⟩ : ∃ V, V = wr.heap.size := ⟨_, rfl⟩
        have hVw : w.heap.size ≤ V := by have := bj.size; omega
        have hbV : bb < V := by rw [hV]; exact Bj.out.lt
        have i0 : OwnInts (wr.alloc (.cells #[] 3)) V (.slice (some ⟨wr.heap.size, 0, none⟩) 0 0) [] := by rw [hV]; exact o1
        have i1 := Own.below oj b1'
        have i2 : Hid (Rows (wr.alloc (.cells #[] 3)) w.heap.size V us (Perms.cycTo p j).2) := Lib.hid (by rw [hV]; exact rj.out.below b1')
        have i3 := Lib.hid (Bj.out.below b1')
        have i4 := bj.trans (b1'.mono bj.size)
        have i5 : V ≤ (wr.alloc (.cells #[] 3)).heap.size := by rw [hV]; exact b1'.size
        obtain ⟨S0, hS0⟩ : ∃ S0, S0 = (Perms.cycTo p j).1 := ⟨_, rfl⟩
        obtain ⟨T0, hT0⟩ : ∃ T0, T0 = (Perms.cycTo p j).2 := ⟨_, rfl⟩
        rw [← hS0] at hm hslt hseen hR0 i3
        rw [← hT0] at i2 hst'
        clear hS0 hT0 oj rj Bj bj hV hm
        go_loopg [6, 7] (p.length - S0.length) (fun gg u6 u7 w2 => ∃ (a : Nat) (s : List Nat) (row : List Int), u7 = .int .i64 a ∧ a < p.length ∧ OwnInts w2 V u6 row ∧ Own w2 w.heap.size 25 (.slice a3 us.length c3) us ∧ Hid (Rows w2 w.heap.size V us T0) ∧ Hid (BoolsIn w2 bb 4 p.length (fun i => decide (i ∈ s))) ∧ Below w.heap.size w w2 ∧ V ≤ w2.heap.size ∧ Hid (Perms.Seen p.length s) ∧ row.length ≤ s.length ∧ s.length + gg = p.length ∧ Hid (Perms.cycW p (gg + 1) a s row = R))
        case atStart => exact ⟨j, S0, [], rfl, hj, i0, i1, i2, i3, i4, i5, hseen, by simp, by omega, Lib.hid (by rw [← hR0.out]; congr 1; omega)⟩
        case round =>
          obtain ⟨a, s, row, rfl, ha, ir, io, iR, iB, bi, hVs, hss, hrl, hsg, hcw⟩ := hrel
          obtain ⟨a6, c6, rfl, _, _, _⟩ := Own.form ir
          have haI : (a : Int) < p.length := by omega
          have hca := iB.out.cell ha
          have hfa := iB.out.frozen a
          have hss10 := hss.out.len
          by_cases hma : a ∈ s
          · rw [decide_eq_true hma] at hca
            have hR1 : Hid (R = (s, row)) := Lib.hid (by rw [← hcw.out]; unfold Perms.cycW; rw [if_pos hma])
            clear hma
            have ba := below_alloc wr (.cells #[.slice a6 (ints row).length c6] 25)
            have io3 := Own.below io ba
            have hr3 := row_one wr (.slice a6 (ints row).length c6) 25
            have hone : Hid (∀ y' ∈ [Value.slice a6 (ints row).length c6], y'.oneCell' = true) := Lib.hid (fun y' hy' => by rw [List.mem_singleton] at hy'; rw [hy']; rfl)
            have oy := Lib.hid (OwnInts.below ir ba)
            have iR3 := Lib.hid (iR.out.below ba)
            have bi3 := bi.trans (ba.mono bi.size)
            have iB3 := Lib.hid (iB.out.below ba)
            go_wp2_with (at_builtin; refine app_outer rfl (.tmp 42) (.tmp 44) rfl rfl io3 rfl hr3 hone.out (by show us.length + 1 ≤ 1099511627776; omega) bi3.size ?_; intro v5 w5 o5 g5)
            have r5 : Hid (Rows w5 w.heap.size w5.heap.size (us ++ [.slice a6 (ints row).length c6]) (Perms.cycTo p (j + 1)).2) := Lib.hid (by
              rw [hst'.out, hR1.out]
              exact (((iR3.out).push (xs := row) (OwnInts.mono oy.out hVw) (fun b hb => (Own.lt oy.out hb).1)).outer io3 g5).tight)
            have b5 := bi3.grown g5 bi3.size (fun b hb => (Own.lt io3 hb).1)
            have B5 : Hid (BoolsIn w5 bb 4 p.length (fun i => decide (i ∈ (Perms.cycTo p (j + 1)).1))) := Lib.hid (by
              rw [hst'.out, hR1.out]
              exact iB3.out.grown g5 (iB3.out.apartOf io3 (by decide)))
            go_roundg (gk1 - 1)
            case measure => omega
            case rel => exact ⟨j + 1, _, by go_num, o5, r5, B5, b5, by omega, by omega⟩
          · rw [decide_eq_false hma] at hca
            have hs2 := hss.out.push ha hma
            have hlt := hs2.len
            rw [List.length_append, List.length_singleton] at hlt
            have hcw2 : Hid (Perms.cycW p gk (p.getD a 0).toNat (s ++ [a]) (row ++ [(a : Int)]) = R) := Lib.hid (by
              rw [← hcw.out]
              conv => rhs; unfold Perms.cycW
              rw [if_neg hma])
            obtain ⟨bp, op, y, rfl, hy, hcy⟩ := hp0.out.cell (k := a) ha
            have hyr := hR'.out.2 y (List.mem_of_getElem? hy.out)
            obtain ⟨q, rfl⟩ : ∃ q : Nat, y = q := ⟨y.toNat, by omega⟩
            have hcw3 : Hid (Perms.cycW p gk q (s ++ [a]) (row ++ [(a : Int)]) = R) := Lib.hid (by
              rw [← hcw2.out]
              simp [List.getD, hy.out])
            have hs2' := Lib.hid hs2
            have jr : OwnInts (wr.setCell ⟨bb, a, none⟩ (.bool true)) V (.slice a6 (ints row).length c6) row := iB.out.keepOwn ir (by decide) _
            have jo := iB.out.keepOwn io (by decide) (.bool true) (k := a)
            have jR := Lib.hid (iB.out.keepRows iR.out (.bool true) (k := a))
            have jB : BoolsIn (wr.setCell ⟨bb, a, none⟩ (.bool true)) bb 4 p.length (fun i => decide (i ∈ s ++ [a])) := (iB.out.set a true).congr (fun i hi => by
              by_cases e : i = a
              · simp [e]
              · simp [e])
            have jB' := Lib.hid jB
            have bi2 := bi.setCell (p := ⟨bb, a, none⟩) hbb2 (.bool true)
            have hVs2 : V ≤ (wr.setCell ⟨bb, a, none⟩ (.bool true)).heap.size := by simp [World.setCell]; exact hVs
            have hcn : Hid (((wr.setCell ⟨bb, a, none⟩ (.bool true)).alloc (.cells #[.int .i64 (a : Int)] 3)).cell? ⟨wr.heap.size, 0, none⟩ = some (.int .i64 (a : Int))) := Lib.hid (by
              have h := cell_new (wr.setCell ⟨bb, a, none⟩ (.bool true)) (.int .i64 (a : Int)) 3
              have e : (wr.setCell ⟨bb, a, none⟩ (.bool true)).heap.size = wr.heap.size := by simp [World.setCell]
              rw [e] at h
              exact h)
            have ba := below_alloc (wr.setCell ⟨bb, a, none⟩ (.bool true)) (.cells #[.int .i64 (a : Int)] 3)
            have b6 := bi2.trans (ba.mono bi2.size)
            have kr := Lib.hid (OwnInts.below jr ba)
            have ko := Own.below jo ba
            have kR := Lib.hid (jR.out.below ba)
            have kB := Lib.hid (jB'.out.below ba)
            have kV : V ≤ ((wr.setCell ⟨bb, a, none⟩ (.bool true)).alloc (.cells #[.int .i64 (a : Int)] 3)).heap.size := by simp [World.setCell]; omega
            have hrl10 : row.length + 1 ≤ 17592186044416 := by omega
            clear hcw hcw2 hma hs2 jB jr jo jR jB'
            go_wp2_with (at_builtin; refine app_int rfl (.tmp 38) (.tmp 40) rfl rfl kr.out rfl hcn.out hrl10 kV ?_; intro v7 w7 o7 g7; have b7 := b6.grown g7 b6.size (fun b hb => by have := (Own.lt kr.out hb).1; omega); have hcy7 := below_cells b7 _ _ hcy)
            have ko7 := Own.grown ko g7 (own_types kr.out ko (by decide))
            have kR7 := Lib.hid (kR.out.grown g7 (fun k hk => .inr (Own.lt kr.out hk).1))
            have kB7 := Lib.hid (kB.out.grown g7 (kB.out.apartOf kr.out (by decide)))
            have kV7 : V ≤ w7.heap.size := Nat.le_trans kV g7.size
            have hqp : q < p.length := by omega
            have hrl7 : (row ++ [(a : Int)]).length ≤ (s ++ [a]).length := by simp; omega
            have hg7 : (s ++ [a]).length + (gk - 1) = p.length := by simp; omega
            have hcw7 : Hid (Perms.cycW p (gk - 1 + 1) q (s ++ [a]) (row ++ [(a : Int)]) = R) := Lib.hid (by rw [← hcw3.out]; congr 1; omega)
            go_roundg (gk - 1)
            case measure => omega
            case rel => exact ⟨q, _, _, by go_num, hqp, o7, ko7, kR7, kB7, b7, kV7, hs2', hrl7, hg7, hcw7⟩
    · have hje : j = p.length := by omega
      have h2 : OwnRows wr w.heap.size wr.heap.size (.slice a3 us.length c3) (Perms.cycles p) := by
        rw [hc.out, ← hje]
        exact rj.out.whole oj (Own.inBlk oj)
      have h3 := Lib.hid (H.out _ wr h2 bj)
      clear h2
      go_wp2_with fail
      exact h3.out
end Go.Proofs.Ytdibmjijpdliaaa
/- How many colorings a group leaves apart: both sides (printed by mk/mkcolo.py). -/
set_option linter.unusedVariables false
namespace Go.Proofs.Ytdibmjijpdliaaa
open Go.RowKit

def Perms.sumTo (g : List (List Int)) (k : Int) : Nat → Int
  | 0 => 0
  | j + 1 => Perms.sumTo g k j + Nums.pw k (Perms.cycles (g.getD j [])).length
def Perms.colO (g : List (List Int)) (k : Int) : Int := if Perms.grpB g = true ∧ 0 ≤ k ∧ k ≤ 4 then Perms.sumTo g k g.length / g.length else -1
theorem Perms.cycles_len (p : List Int) : (Perms.cycles p).length ≤ 10 := by
  unfold Perms.cycles
  by_cases h : Perms.permB p = true
  · rw [if_pos h]
    have := Perms.cycTo_len p p.length
    have := Perms.permB_len h
    omega
  · rw [if_neg h]; simp
theorem Perms.sum_bd (g : List (List Int)) {k : Int} (h0 : 0 ≤ k) (h4 : k ≤ 4) : ∀ j : Nat, 0 ≤ Perms.sumTo g k j ∧ Perms.sumTo g k j ≤ 1048576 * j
  | 0 => by simp [Perms.sumTo]
  | j + 1 => by
    have ih := Perms.sum_bd g h0 h4 j
    have hc := Perms.cycles_len (g.getD j [])
    have h1 := Nums.powTo_bd4 h0 h4 (Perms.cycles (g.getD j [])).length
    have h2 : 4 ^ (Perms.cycles (g.getD j [])).length ≤ 4 ^ 10 := Nat.pow_le_pow_right (by omega) hc
    have h3 : Nums.pw k (Perms.cycles (g.getD j [])).length = Nums.powTo k (Perms.cycles (g.getD j [])).length := by unfold Nums.pw; rw [Int.toNat_natCast]
    unfold Perms.sumTo
    rw [h3]
    omega
theorem CountCycles_i {vp : Value} {p : List Int} {w : World} {Q : Ending → World → Prop} (hp : IntsAt w vp p)
    (hQ : ∀ w', Below w.heap.size w w' → Q (.returned (.int .i64 (Perms.cycles p).length)) w') :
    Calls Try.prog 29 #[vp] w Q := by
  have H := Lib.hid hQ; clear hQ
  have hp0 := Lib.hid hp
  obtain ⟨ap, cp, rfl, lp, lcp, ccp⟩ := hp.form
  clear hp
  go_enter Try.func29, Try.ntmps29
  go_wp2_with fail
  refine CyclesOf_i hp0.out ?_
  intro v1 w1 o1 b1
  have h3 := Lib.hid (H.out w1 b1)
  obtain ⟨a1, c1, rfl, _, _, _⟩ := o1.form
  go_wp2_with fail
  exact h3.out
set_option maxHeartbeats 1600000 in
theorem CountColorings_i {vg : Value} {g : List (List Int)} {k : Int} {w : World} {Q : Ending → World → Prop} (hg : RowsAt w vg g)
    (hQ : ∀ w', Below w.heap.size w w' → Q (.returned (.int .i64 (Perms.colO g k))) w') :
    Calls Try.prog 21 #[vg, .int .i64 k] w Q := by
  have H := Lib.hid hQ; clear hQ
  have hg0 := Lib.hid hg
  obtain ⟨ag, cg, rfl, lg, lcg, ccg⟩ := hg.form
  clear hg
  by_cases hok : Perms.grpB g = true ∧ 0 ≤ k ∧ k ≤ 4
  rotate_left
  · have hc : Perms.colO g k = -1 := by unfold Perms.colO; rw [if_neg hok]
    rw [hc] at H
    have hk : Hid (Perms.grpB g = true → ¬ (0 ≤ k ∧ k ≤ 4)) := Lib.hid (fun a b => hok ⟨a, b⟩)
    clear hok hc
    go_enter Try.func21, Try.ntmps21
    go_wp2_with fail
    refine GroupOk_i hg0.out ?_
    intro w1 b1
    have h3 := Lib.hid (H.out w1 b1)
    cases hb : Perms.grpB g with
    | false =>
      clear hb
      go_wp2_with fail
      exact h3.out
    | true =>
      have hk2 := hk.out hb
      clear hb
      rcases Int.lt_or_le k 0 with hk3 | hk3
      · go_wp2_with fail
        exact h3.out
      · have hk4 : 4 < k := by omega
        go_wp2_with fail
        exact h3.out
  obtain ⟨hgr, hk0, hk4⟩ := hok
  have hc : Hid (Perms.colO g k = Perms.sumTo g k g.length / g.length) := Lib.hid (by unfold Perms.colO; rw [if_pos ⟨hgr, hk0, hk4⟩])
  obtain ⟨hl1, hl2, _, _⟩ := Perms.grpB_parts hgr
  have hgr' := Lib.hid hgr
  clear hgr
  go_enter Try.func21, Try.ntmps21
  go_wp2_with fail
  refine GroupOk_i hg0.out ?_
  intro w1 b1
  rw [hgr'.out]
  go_wp2_with fail
  go_loopg [5, 21] g.length (fun gg u5 u21 wr => ∃ (j : Nat), u21 = .int .i64 j ∧ u5 = .int .i64 (Perms.sumTo g k j) ∧ Below w.heap.size w wr ∧ j + gg ≤ g.length ∧ g.length ≤ j + gg)
  case atStart => exact ⟨0, rfl, rfl, b1, by omega, by omega⟩
  case round =>
    obtain ⟨j, rfl, rfl, bj, hj1, hj2⟩ := hrel
    have hsb := Perms.sum_bd g hk0 hk4 j
    by_cases hj : j < g.length
    · have hjI : (j : Int) < g.length := by omega
      obtain ⟨b7, f7, u, x, e7, hx, hcx, hux⟩ := (hg0.out.below bj).cell hj
      cases e7
      obtain ⟨ax, cx, rfl, _, _, _⟩ := hux.form
      have hux' := Lib.hid hux
      have hcl := Perms.cycles_len x
      have hsb2 := Perms.sum_bd g hk0 hk4 (j + 1)
      have hst : Perms.sumTo g k (j + 1) = Perms.sumTo g k j + Nums.pw k (Perms.cycles x).length := by
        have e : g.getD j [] = x := by simp [List.getD, hx.out]
        show Perms.sumTo g k j + Nums.pw k (Perms.cycles (g.getD j [])).length = _
        rw [e]
      obtain ⟨P, hP⟩ : ∃ P, P = Nums.pw k (Perms.cycles x).length := ⟨_, rfl⟩
      obtain ⟨n, hn⟩ : ∃ n, n = (Perms.cycles x).length := ⟨_, rfl⟩
      rw [← hP] at hst
      rw [← hn] at hP hcl
      have hP' := Lib.hid hP
      have hn' := Lib.hid hn
      have hbd : -9223372036854775808 ≤ Perms.sumTo g k j + P ∧ Perms.sumTo g k j + P ≤ 9223372036854775807 := by omega
      have hst' := Lib.hid hst
      clear hux hP hn hst hsb2
      go_wp2_with (first
        | (refine CountCycles_i hux'.out ?_; intro w3 b3; rw [← hn'.out])
        | (go_at_call 62; refine power_i hk0 hk4 (by omega) (by omega) ?_; rw [← hP'.out]))
      have bj3 := bj.trans (b3.mono bj.size)
      go_roundg (gk - 1)
      case measure => omega
      case rel => exact ⟨j + 1, by go_num, by rw [hst'.out], bj3, by omega, by omega⟩
    · have hje : j = g.length := by omega
      subst hje
      have h3 := Lib.hid (H.out wr bj)
      rw [hc.out] at h3
      obtain ⟨T, hT⟩ : ∃ T, T = Perms.sumTo g k g.length := ⟨_, rfl⟩
      rw [← hT] at h3 hsb ⊢
      clear hT hc
      have hq0 : 0 ≤ T / (g.length : Int) := Int.ediv_nonneg hsb.1 (by omega)
      have hq1 : T / (g.length : Int) ≤ T := Int.ediv_le_self _ hsb.1
      have hgz : ((g.length : Int) == 0) = false := by rw [beq_eq_false_iff_ne]; omega
      have hgm : ((g.length : Int) == -1) = false := by rw [beq_eq_false_iff_ne]; omega
      go_wp2_with fail
      exact h3.out
end Go.Proofs.Ytdibmjijpdliaaa
/- The words of Lyndon and the bracelets, listed by the program. -/
set_option linter.unusedVariables false
namespace Go.Proofs.Ytdibmjijpdliaaa
open Go.RowKit

set_option maxHeartbeats 800000 in
theorem braceletSays {B : Nat} {w0 : World} {xss : List (List Int)} (hl : ∀ xs ∈ xss, xs.length ≤ 10) : Says 80 #[] B w0 xss (fun xs => !Words.brB xs) := by
  intro wr u xs Q hB hm ha hQ
  have H := Lib.hid hQ; clear hQ
  have hl2 := hl xs hm
  have ha' := Lib.hid ha
  obtain ⟨au, cu, rfl, _, _, _⟩ := ha.form
  clear ha hl hm hB
  show Calls Try.prog 80 #[.slice au xs.length cu] wr Q
  go_enter Try.func80, Try.ntmps80
  go_wp2_with fail
  refine IsBracelet_i ha'.out (by omega) ?_
  intro w1 b1
  go_wp2_with fail
  exact H.out _ b1
set_option maxHeartbeats 1600000 in
theorem BraceletsOf_i {n k : Int} {w : World} {Q : Ending → World → Prop}
    (hQ : ∀ v w', OwnRows w' w.heap.size w'.heap.size v (Words.enumO Words.brB n k) → Below w.heap.size w w' → Q (.returned (.tuple #[v, .bool (Words.smallN n k)])) w') :
    Calls Try.prog 37 #[.int .i64 n, .int .i64 k] w Q := by
  have H := Lib.hid hQ; clear hQ
  have none' : ∀ w', Below w.heap.size w w' → Words.smallN n k = false → Q (.returned (.tuple #[.slice none 0 0, .bool false])) w' := fun w' hb e => by
    have := H.out (.slice none 0 0) w' (by unfold Words.enumO; rw [if_neg (by rw [e]; simp)]; exact OwnRows.nil _ _ _) hb
    rw [e] at this; exact this
  have none'' := Lib.hid none'
  clear none'
  by_cases hn : 1 ≤ n ∧ n ≤ 10
  rotate_left
  · have hd : Hid (decide (1 ≤ n ∧ n ≤ 10) = false) := Lib.hid (decide_eq_false hn)
    have e : Hid (Words.smallN n k = false) := Lib.hid (by unfold Words.smallN; rw [hd.out]; simp)
    clear hn
    go_enter Try.func37, Try.ntmps37
    go_wp2_with (go_at_call 71; refine isLength_i ?_; rw [hd.out])
    all_goals exact none''.out _ (Below.refl _ _) e.out
  have hd : Hid (decide (1 ≤ n ∧ n ≤ 10) = true) := Lib.hid (decide_eq_true hn)
  obtain ⟨hn1, hn2⟩ := hn
  have hsm : Hid (Words.smallN n k = (decide (1 ≤ k ∧ k ≤ 4) && decide (Nums.pw k n ≤ 1024))) := Lib.hid (by unfold Words.smallN; rw [hd.out, Bool.true_and])
  go_enter Try.func37, Try.ntmps37
  go_wp2_with (go_at_call 71; refine isLength_i ?_; rw [hd.out])
  refine isSmall_i (by omega) hn2 ?_
  rw [← hsm.out]
  by_cases hs0 : Words.smallN n k = true
  rotate_left
  · have hf : Hid (Words.smallN n k = false) := Lib.hid (by simpa using hs0)
    rw [hf.out]
    clear hs0
    go_wp2_with fail
    exact none''.out _ (Below.refl _ _) hf.out
  have hs := Lib.hid hs0
  have hs2 := hs0
  unfold Words.smallN at hs2
  simp only [Bool.and_eq_true, decide_eq_true_eq] at hs2
  obtain ⟨_, ⟨hk1, hk4⟩, _⟩ := hs2
  obtain ⟨n0, rfl⟩ : ∃ n0 : Nat, n = n0 := ⟨n.toNat, by omega⟩
  rw [hs.out]
  have Hok : Hid (∀ v w', OwnRows w' w.heap.size w'.heap.size v (Words.enumW Words.brB n0 k) → Below w.heap.size w w' → Q (.returned (.tuple #[v, .bool true])) w') := Lib.hid fun v w' ho hb => by
    have h2 := H.out v w' (by unfold Words.enumO; rw [if_pos hs.out, Int.toNat_natCast]; exact ho) hb
    rwa [hs.out] at h2
  clear hs0
  go_wp2_with fail
  refine necklaces_i hk1 hk4 (by omega) (by omega) ?_
  intro v1 w1 o1 b1
  have hlen : ∀ xs ∈ Words.necks k n0, xs.length ≤ 10 := fun xs hxs => by have := (Words.necksN_mem (k := k.toNat) hxs).1; omega
  have hS := Lib.hid (braceletSays (B := w.heap.size) (w0 := w1) hlen)
  have hb1 : Below w.heap.size w w1 := b1
  have hsz : w.heap.size ≤ w1.heap.size := b1.size
  clear b1
  have o1' := Lib.hid o1
  obtain ⟨ao, co, rfl, _, _, _⟩ := o1.form
  clear o1 hlen
  have hsum : Hid ((Words.necks k n0).filter (fun xs => !(fun xs => !Words.brB xs) xs) = Words.enumW Words.brB n0 k) := Lib.hid (Words.enum_brac (by omega) (by omega) hk1 hk4)
  go_wp2_with fail
  refine delete_c (fun args w => enters_of Try.func80 (by kernel_rfl) rfl args w) o1'.out hsz hS.out ?_
  intro v2 w2 o2 b2
  rw [hsum.out] at o2
  have hb2 : Below w.heap.size w w2 := hb1.trans (b2.mono (by omega))
  have h2 := Hok.out v2 w2 (OwnRows.mono o2 (by omega) (Nat.le_refl _)) hb2
  have h3 := Lib.hid h2
  clear h2 o2
  go_wp2_with fail
  exact h3.out
end Go.Proofs.Ytdibmjijpdliaaa
/- The group that some permutations make, as the program makes it. -/
set_option linter.unusedVariables false
namespace Go.Proofs.Ytdibmjijpdliaaa
open Go.RowKit

theorem containsIf_c {f : Nat} {lb : Array Value} {P : List Int → Bool} (eg : ∀ args w, (callFunc f args).run Try.prog w = .ok (.enter f args) w) {va : Value} {xss : List (List Int)} {w : World} {Q : Ending → World → Prop} (ha : RowsAt w va xss) (hs : Says f lb w.heap.size w xss P)
    (h0 : ∀ w', Below w.heap.size w w' → (∀ xs ∈ xss, P xs = false) → Q (.returned (.bool false)) w')
    (h1 : ∀ w' xs, Below w.heap.size w w' → xs ∈ xss → P xs = true → Q (.returned (.bool true)) w') :
    Calls Try.prog 97 #[va, .func (.func f) #[] lb] w Q := by
  have H0 := Lib.hid h0; clear h0
  have H1 := Lib.hid h1; clear h1
  have HS := Lib.hid hs; clear hs
  have ha' := Lib.hid ha
  obtain ⟨aa, ca, rfl, la, lca, cca⟩ := ha.form
  clear ha
  go_enter Try.func97, Try.ntmps97
  go_wp2_with fail
  refine findIf_c eg ha'.out (Nat.le_refl _) HS.out ?_ ?_
  · intro w1 b1 hall
    have h3 := Lib.hid (H0.out w1 b1 hall)
    clear hall
    go_wp2_with fail
    exact h3.out
  · intro w1 k xs b1 hx hp hb
    have h3 := Lib.hid (H1.out w1 xs b1 (List.mem_of_getElem? hx) hp)
    have hk : (0 : Int) ≤ k := by omega
    clear hx hp hb
    go_wp2_with fail
    exact h3.out
set_option maxHeartbeats 800000 in
theorem sameSays {b : Nat} {w0 : World} {xss : List (List Int)} {u : Value} {q : List Int} (hbx : BoxAt w0 b 25 u) (hu : IntsAt w0 u q) : Says 98 #[.pointer (some ⟨b, 0, none⟩)] w0.heap.size w0 xss (fun xs => decide (xs = q)) := by
  intro wr v xs Q hB hm ha hQ
  have H := Lib.hid hQ; clear hQ
  have hcell := (hbx.below hB).cell
  have hu' := Lib.hid (hu.below hB)
  have ha' := Lib.hid ha
  obtain ⟨au, cu, rfl, _, _, _⟩ := hu.form
  obtain ⟨av, cv, rfl, _, _, _⟩ := ha.form
  clear ha hm hB hu hbx
  show Calls Try.prog 98 #[.slice av xs.length cv, .pointer (some ⟨b, 0, none⟩)] wr Q
  go_enter Try.func98, Try.ntmps98
  go_wp2_with fail
  refine Equal_c ha'.out hu'.out ?_
  intro w1 d1
  have h3 := Lib.hid (H.out w1 (d1.below _))
  go_wp2_with fail
  exact h3.out
set_option maxHeartbeats 4000000 in
theorem GroupOf_i {vg : Value} {gens : List (List Int)} {n : Int} {w : World} {Q : Ending → World → Prop} (hg : RowsAt w vg gens)
    (hQ : ∀ v w', OwnRows w' w.heap.size w'.heap.size v (Perms.gofW n gens) → Below w.heap.size w w' → Q (.returned (.tuple #[v, .bool (Perms.gofB n gens)])) w') :
    Calls Try.prog 69 #[.int .i64 n, vg] w Q := by
  have H := Lib.hid hQ; clear hQ
  have hg0 := Lib.hid hg
  have bad : ∀ w', Below w.heap.size w w' → Perms.gofO n gens = none → Q (.returned (.tuple #[.slice none 0 0, .bool false])) w' := fun w' hb hf => by
    have := H.out (.slice none 0 0) w' (by unfold Perms.gofW; rw [hf]; exact OwnRows.nil _ _ _) hb
    unfold Perms.gofB at this
    rw [hf] at this; exact this
  have good : ∀ w' v q, Below w.heap.size w w' → Perms.gofO n gens = some q → OwnRows w' w.heap.size w'.heap.size v (Perms.isort q) → Q (.returned (.tuple #[v, .bool true])) w' := fun w' v q hb hf ho => by
    have := H.out v w' (by unfold Perms.gofW; rw [hf]; exact ho) hb
    unfold Perms.gofB at this
    rw [hf] at this; exact this
  have bad' := Lib.hid bad
  have good' := Lib.hid good
  clear bad good
  obtain ⟨aa, ca, rfl, la, lca, cca⟩ := hg.form
  clear hg
  by_cases hn : 1 ≤ n ∧ n ≤ 10
  rotate_left
  · have e : Hid (Perms.gofO n gens = none) := Lib.hid (by unfold Perms.gofO Perms.gokB; rw [decide_eq_false hn]; rfl)
    by_cases h1 : n < 1
    · clear hn
      go_enter Try.func69, Try.ntmps69
      go_wp2_with fail
      exact bad'.out _ (Below.refl _ _) e.out
    · have h2 : 10 < n := by omega
      clear hn
      go_enter Try.func69, Try.ntmps69
      go_wp2_with fail
      exact bad'.out _ (Below.refl _ _) e.out
  obtain ⟨hn1, hn2⟩ := hn
  obtain ⟨n0, rfl⟩ : ∃ n0 : Nat, n = n0 := ⟨n.toNat, by omega⟩
  have hn3 : ¬ ((n0 : Int) < 1) := by omega
  have hn4 : ¬ ((10 : Int) < n0) := by omega
  go_enter Try.func69, Try.ntmps69
  go_wp2_with fail
  have hgl63 := Lib.hid la
  go_loopg [21] gens.length (fun g i wr => Below w.heap.size w wr ∧ ∃ j : Nat, i = .int .i64 j ∧ Hid ((gens.take j).all (fun p => Perms.permB p && decide ((p.length : Int) = n0)) = true) ∧ j + g ≤ gens.length ∧ gens.length ≤ j + g)
  case atStart => exact ⟨Below.refl _ _, 0, rfl, Lib.hid rfl, by omega, by omega⟩
  case round =>
    obtain ⟨hb, j, rfl, hok, hk1, hk2⟩ := hrel
    by_cases hj : j < gens.length
    · obtain ⟨b, off, u, p, rfl, hx, hcw, hi⟩ := hg0.out.cell hj
      obtain ⟨au, cu, rfl, lp, _, _⟩ := hi.form
      have i1 : (j : Int) < gens.length := by omega
      have hc := below_cells hb _ _ hcw
      have hi' := Lib.hid (hi.below hb)
      have hst : Hid ((gens.take (j + 1)).all (fun p => Perms.permB p && decide ((p.length : Int) = n0)) = (Perms.permB p && decide ((p.length : Int) = n0))) := Lib.hid (by
        rw [List.take_add_one, hx.out, List.all_append, hok.out]; simp)
      have hbadp : Hid ((Perms.permB p && decide ((p.length : Int) = n0)) = false → Perms.gofO n0 gens = none) := Lib.hid (fun h => by
        unfold Perms.gofO
        rw [if_neg]
        intro h2
        have := (Perms.gok_parts h2).2.2 p (List.mem_of_getElem? hx.out)
        rw [this.1, decide_eq_true this.2] at h
        cases h)
      clear hi
      go_wp2_with fail
      refine PermOk_i hi'.out ?_
      intro w2 b2
      have hbb : Below w.heap.size w w2 := hb.trans (b2.mono hb.size)
      cases hpb : Perms.permB p with
      | false =>
        have hf := Lib.hid (hbadp.out (by rw [hpb]; rfl))
        clear hpb
        go_wp2_with fail
        exact bad'.out _ hbb hf.out
      | true =>
        by_cases hln : (p.length : Int) = n0
        · have hs2 : Hid ((gens.take (j + 1)).all (fun p => Perms.permB p && decide ((p.length : Int) = n0)) = true) := Lib.hid (by rw [hst.out, hpb, decide_eq_true hln]; rfl)
          have hne : ((p.length : Int) != n0) = false := by rw [hln]; simp
          clear hpb hln
          go_wp2_with fail
          go_roundg (gk - 1)
          case measure => omega
          case rel => exact ⟨hbb, j + 1, by go_num, hs2, by omega, by omega⟩
        · have hf := Lib.hid (hbadp.out (by rw [hpb, decide_eq_false hln]; rfl))
          have hne : ((p.length : Int) != n0) = true := by simpa using hln
          clear hpb hln
          go_wp2_with fail
          exact bad'.out _ hbb hf.out
    · have hgok : Perms.gokB n0 gens = true := by
        have h := hok.out
        rw [List.take_of_length_le (by omega)] at h
        unfold Perms.gokB
        rw [h, decide_eq_true (by omega)]; rfl
      have hgo : Hid (Perms.gofO n0 gens = Perms.bfs gens 121 0 [Perms.iota n0]) := Lib.hid (by unfold Perms.gofO; rw [if_pos hgok, Int.toNat_natCast])
      have hgr := Lib.hid (Perms.gok_inR hgok)
      have hg1 := Lib.hid (hg0.out.below hb)
      clear hgok hok
      go_wp2_with fail
      refine IdentityPerm_i (by omega) (by omega) ?_
      intro v1 w1 o1 b1
      obtain ⟨a1, c1, rfl, _, _, _⟩ := Own.form o1
      have bw1 := hb.trans (b1.mono hb.size)
      have q1 := own_rows_one (OwnInts.mono o1 hb.size) bw1.size
      have ba1 := below_alloc w1 (.cells #[.slice a1 (ints (Perms.iota n0)).length c1] 25)
      have bwa1 := bw1.trans (ba1.mono bw1.size)
      obtain ⟨us0, g0o, _, g0r⟩ := (q1.tight).parts
      have g0r' := Lib.hid g0r
      have hgw2 := Lib.hid (hg0.out.below bwa1)
      have hinv := Lib.hid (Perms.GofInv.start (n := n0))
      clear q1 g0r
      go_wp2_with fail
      go_loopg [8, 9] 120 (fun gg u8 u9 wr => ∃ (a : Nat) (q : List (List Int)) (us : List Value), u9 = .int .i64 a ∧ Own wr w.heap.size 25 u8 us ∧ Hid (Rows wr w.heap.size wr.heap.size us q) ∧ Hid (Perms.GofInv n0 q) ∧ Hid (Perms.gofO n0 gens = Perms.bfs gens (gg + 1) a q) ∧ Below w.heap.size w wr ∧ Hid (RowsAt wr (.slice aa gens.length ca) gens) ∧ a ≤ q.length ∧ 0 < q.length ∧ a + gg = 120)
      case atStart => exact ⟨0, [Perms.iota n0], us0, rfl, g0o, g0r', hinv, hgo, bwa1, hgw2, by simp, by simp, rfl⟩
      case round =>
        obtain ⟨a, q, us, rfl, og, rg, inv, hbf, bwr, hgr3, ha1, hpos, ha2⟩ := hrel
        obtain ⟨gk1, hgk1⟩ : ∃ g, g = gk := ⟨_, rfl⟩
        obtain ⟨a8, c8, rfl, _, _, _⟩ := Own.form og
        have hql := inv.out.le
        have husl : us.length ≤ q.length ∧ q.length ≤ us.length := by have := rg.out.1; omega
        by_cases ha : a < q.length
        · have haI : (a : Int) < us.length := by omega
          obtain ⟨p, hp0⟩ : ∃ p, q[a]? = some p := ⟨_, List.getElem?_eq_getElem ha⟩
          have hp := Lib.hid hp0
          have hgk : gk = gk1 - 1 + 1 := by omega
          have hrow : Hid (Perms.gofO n0 gens = (Perms.rowTo gens p q gens.length).bind (Perms.bfs gens (gk1 - 1 + 1) (a + 1))) := Lib.hid (by
            rw [hbf.out, Perms.bfs_row hp0, ← hgk])
          clear hp0
          go_wp2_with fail
          have hst0 : Hid (Perms.rowTo gens p q 0 = some q) := Lib.hid rfl
          go_loopg [8, 46] gens.length (fun gg u8 u46 wr2 => ∃ (t : Nat) (cur : List (List Int)) (us : List Value), u46 = .int .i64 t ∧ Own wr2 w.heap.size 25 u8 us ∧ Hid (Rows wr2 w.heap.size wr2.heap.size us cur) ∧ Hid (Perms.GofInv n0 cur) ∧ Hid (Perms.rowTo gens p q t = some cur) ∧ Hid (cur[a]? = some p) ∧ Below w.heap.size w wr2 ∧ Hid (RowsAt wr2 (.slice aa gens.length ca) gens) ∧ t + gg ≤ gens.length ∧ gens.length ≤ t + gg)
          case atStart => exact ⟨0, q, us, rfl, og, rg, inv, hst0, hp, bwr, hgr3, by omega, by omega⟩
          case round =>
            obtain ⟨t, cur, us, rfl, og, rg, inv, hrt, hpa, bwr, hgr3, ht1, ht2⟩ := hrel
            obtain ⟨a8, c8, rfl, _, _, _⟩ := Own.form og
            have hql := inv.out.le
            have husl : us.length ≤ cur.length ∧ cur.length ≤ us.length := by have := rg.out.1; omega
            have hac : a < cur.length := (List.getElem?_eq_some_iff.1 hpa.out).1
            by_cases ht : t < gens.length
            · have htI : (t : Int) < gens.length := by omega
              have haI2 : (a : Int) < us.length := by omega
              obtain ⟨b7, f7, ug, s, rfl, hs, hcs, hus⟩ := hgr3.out.cell ht
              obtain ⟨ag, cg, rfl, _, _, _⟩ := hus.form
              have hus' := Lib.hid hus
              obtain ⟨up, hup, hoip, _⟩ := rg.out.2.1 a p hpa.out
              obtain ⟨ap, cp, rfl, _, _, _⟩ := Own.form hoip
              obtain ⟨g9, rfl, _, _⟩ := Own.head og (by omega)
              have hcp := Own.cell og hup
              have hip := Lib.hid (OwnInts.at hoip)
              have hpR := inv.out.rg p (List.mem_of_getElem? hpa.out)
              have hsR := hgr.out s (List.mem_of_getElem? hs.out)
              have hcR := Lib.hid (Perms.inR_comp hpR hsR)
              have hpl : p.length ≤ 1048576 := by rw [hpR.1]; omega
              have hpr : Hid (∀ x ∈ p, 0 ≤ x ∧ x < s.length) := Lib.hid (by rw [hsR.1]; exact hpR.2)
              have hstep : Hid (Perms.rowTo gens p q (t + 1) = Perms.stepG (some cur) (Perms.comp p s)) := Lib.hid (by rw [Perms.rowTo_step hs.out, hrt.out])
              clear hus hup hpR hsR
              go_wp2_with fail
              refine compose_i hip.out hus'.out hpl hpr.out ?_
              intro v3 w3 o3 b3
              obtain ⟨a3, c3, rfl, _, _, _⟩ := Own.form o3
              obtain ⟨c, hc⟩ : ∃ c, c = Perms.comp p s := ⟨_, rfl⟩
              rw [← hc] at o3 hcR hstep ⊢
              have bw3 := bwr.trans (b3.mono bwr.size)
              have ba3 := below_alloc w3 (.cells #[.slice a3 (ints c).length c3] 25)
              have hbx : BoxAt (w3.alloc (.cells #[.slice a3 (ints c).length c3] 25)) w3.heap.size 25 (.slice a3 (ints c).length c3) := heap_alloc_new _ _
              have b34 : Below wr.heap.size wr (w3.alloc (.cells #[.slice a3 (ints c).length c3] 25)) := b3.trans (ba3.mono b3.size)
              have bw4 := bwr.trans (b34.mono bwr.size)
              have og4 := Own.below og b34
              have rg4 := Lib.hid (rg.out.below b34)
              have o34 := Lib.hid (OwnInts.below o3 ba3)
              have hrat := Lib.hid ((rg4.out.vals).at og4)
              have hS := Lib.hid (sameSays (xss := cur) hbx (OwnInts.at o34.out))
              have hbx' := Lib.hid hbx
              clear hc hbx o3
              go_wp2_with fail
              refine containsIf_c (fun args w => enters_of Try.func98 (by kernel_rfl) rfl args w) hrat.out hS.out ?_ ?_
              · intro w5 b5 hall
                have hm : c ∉ cur := fun h => by have := hall c h; simp at this
                have hcell5 := (hbx'.out.below b5).cell
                have bw5 := bw4.trans (b5.mono bw4.size)
                by_cases h120 : cur.length = 120
                · have hst2 : Hid (Perms.rowTo gens p q (t + 1) = none) := Lib.hid (by rw [hstep.out]; simp [Perms.stepG, hm, h120])
                  have hno : Hid (Perms.gofO n0 gens = none) := Lib.hid (by rw [hrow.out, Perms.rowTo_none hst2.out]; rfl)
                  have hus120 : (us.length : Int) = 120 := by omega
                  clear hm h120 hall
                  go_wp2_with fail
                  exact bad'.out _ bw5 hno.out
                · have hst2 : Hid (Perms.rowTo gens p q (t + 1) = some (cur ++ [c])) := Lib.hid (by rw [hstep.out]; simp [Perms.stepG, hm, h120])
                  have inv2 := Lib.hid (inv.out.add hcR.out hm h120)
                  have hus120 : ((us.length : Int) == 120) = false := by
                    rw [beq_eq_false_iff_ne]; omega
                  have hpa2 : Hid ((cur ++ [c])[a]? = some p) := Lib.hid (by rw [List.getElem?_append_left hac]; exact hpa.out)
                  have og5 := Own.below og4 b5
                  have rg5 := Lib.hid (rg4.out.below b5)
                  have o35 := Lib.hid (OwnInts.below o34.out b5)
                  have ba5 := below_alloc w5 (.cells #[.slice a3 (ints c).length c3] 25)
                  have oq6 := Own.below og5 ba5
                  have hr6 := row_one w5 (.slice a3 (ints c).length c3) 25
                  have hone6 : Hid (∀ y ∈ [Value.slice a3 (ints c).length c3], y.oneCell' = true) := Lib.hid (fun y hy => by rw [List.mem_singleton] at hy; rw [hy]; rfl)
                  have bw6 := bw5.trans (ba5.mono bw5.size)
                  clear hm hall
                  go_wp2_with (at_builtin; refine app_outer rfl (.tmp 62) (.tmp 64) rfl rfl oq6 rfl hr6 hone6.out (by show us.length + 1 ≤ 1099511627776; omega) bw6.size ?_; intro v7 w7 o7 g7)
                  have bw7 := bw6.grown g7 bw6.size (fun b hb => (Own.lt oq6 hb).1)
                  have hrp := (((rg5.out.below ba5).push (OwnInts.mono (OwnInts.below o35.out ba5) bwr.size) (fun b hb => (Own.lt o35.out hb).1)).outer oq6 g7).tight
                  have rg7 := Lib.hid hrp
                  have hgr7 := Lib.hid (hg0.out.below bw7)
                  go_roundg (gk - 1)
                  case measure => omega
                  case rel => exact ⟨t + 1, cur ++ [c], us ++ [.slice a3 (ints c).length c3], by go_num, o7, rg7, inv2, hst2, hpa2, bw7, hgr7, by omega, by omega⟩
              · intro w5 xs b5 hxs hxp
                have hm : c ∈ cur := by have e := of_decide_eq_true hxp; rw [← e]; exact hxs
                have hst2 : Hid (Perms.rowTo gens p q (t + 1) = some cur) := Lib.hid (by rw [hstep.out]; simp [Perms.stepG, hm])
                have bw5 := bw4.trans (b5.mono bw4.size)
                have og5 := Own.below og4 b5
                have rg5 := Lib.hid ((rg4.out.below b5).tight)
                have hgr5 := Lib.hid (hg0.out.below bw5)
                clear hm hxs hxp
                go_wp2_with fail
                go_roundg (gk - 1)
                case measure => omega
                case rel => exact ⟨t + 1, cur, us, by go_num, og5, rg5, inv, hst2, hpa, bw5, hgr5, by omega, by omega⟩
            · have hte : t = gens.length := by omega
              have hbf2 : Hid (Perms.gofO n0 gens = Perms.bfs gens (gk1 - 1 + 1) (a + 1) cur) := Lib.hid (by rw [hrow.out, ← hte, hrt.out]; rfl)
              go_wp2_with fail
              go_roundg (gk1 - 1)
              case measure => omega
              case rel => exact ⟨a + 1, cur, us, by go_num, og, rg, inv, hbf2, bwr, hgr3, by omega, by omega, by omega⟩
        · obtain rfl : a = q.length := by omega
          have hfin : Hid (Perms.gofO n0 gens = some q) := Lib.hid (by rw [hbf.out, Perms.bfs_end (Nat.le_refl _)])
          have how := Lib.hid (rg.out.whole og (Own.inBlk og))
          have bws := bwr.size
          go_wp2_with fail
          refine sortRows_c how.out bws hpos (by omega) ?_
          intro w5 yss hp5 hs5 o5 b5
          obtain rfl : yss = Perms.isort q := sorted_unique (hp5.trans (Perms.isort_perm _).symm) hs5 (Perms.isort_sorted _)
          have h3 := Lib.hid (good'.out w5 _ q (bwr.trans b5) hfin.out o5)
          go_wp2_with fail
          exact h3.out
end Go.Proofs.Ytdibmjijpdliaaa
/- The cyclic and the dihedral groups, as the program makes them. -/
set_option linter.unusedVariables false
namespace Go.Proofs.Ytdibmjijpdliaaa
open Go.RowKit

def Perms.turnL (n : Nat) : List Int := (List.range n).map fun (k : Nat) => (((k + 1) % n : Nat) : Int)
theorem Perms.turnL_len (n : Nat) : (Perms.turnL n).length = n := by simp [Perms.turnL]
theorem Perms.turnL_get {n j : Nat} (hj : j < n) : (Perms.turnL n)[j]? = some (((j + 1) % n : Nat) : Int) := by simp [Perms.turnL, hj]
theorem over_step {α : Type} {xs ys : List α} {j : Nat} {x : α} (hx : xs[j]? = some x) (hy : j < ys.length) : (xs.take j ++ ys.drop j).set j x = xs.take (j + 1) ++ ys.drop (j + 1) := by
  have hj := (List.getElem?_eq_some_iff.1 hx).1
  have e : ys.drop j = ys[j] :: ys.drop (j + 1) := List.drop_eq_getElem_cons hy
  have hl : (xs.take j).length = j := by rw [List.length_take]; omega
  rw [List.set_append_right _ _ (by omega), hl, Nat.sub_self]
  rw [e, List.set_cons_zero, List.take_add_one, hx, List.append_assoc]
  rfl
theorem over_get {α : Type} {xs ys : List α} {j : Nat} (hx : j < xs.length) : (xs.take j ++ ys.drop j)[j]? = ys[j]? := by
  have hl : (xs.take j).length = j := by rw [List.length_take]; omega
  rw [List.getElem?_append_right (by omega), hl, Nat.sub_self, List.getElem?_drop, Nat.add_zero]
set_option maxHeartbeats 800000 in
theorem turn_i {n : Nat} {w : World} {Q : Ending → World → Prop} (hn1 : 1 ≤ n) (hn : n ≤ 10)
    (hQ : ∀ v w', OwnInts w' w.heap.size v (Perms.turnL n) → Below w.heap.size w w' → Q (.returned v) w') :
    Calls Try.prog 70 #[.int .i64 n] w Q := by
  have H := Lib.hid hQ; clear hQ
  go_enter Try.func70, Try.ntmps70
  go_wp2_with fail
  refine IdentityPerm_i hn1 hn ?_
  intro v1 w1 o1 b1
  obtain ⟨a1, c1, rfl, _, _, _⟩ := Own.form o1
  obtain ⟨g, rfl, hgB, hgl⟩ := Own.head o1 (by rw [ints_len, Perms.iota_len]; omega)
  have e1 : (ints (Perms.iota n)).length = n := by rw [ints_len, Perms.iota_len]
  rw [e1] at o1 ⊢
  have o1' : OwnInts w1 w.heap.size (.slice (some ⟨g, 0, none⟩) n c1) ((Perms.turnL n).take 0 ++ (Perms.iota n).drop 0) := by simpa using o1
  clear e1 o1
  go_wp2_with fail
  go_loopg [9] n (fun gg u9 wr => ∃ (j : Nat), u9 = .int .i64 j ∧ OwnInts wr w.heap.size (.slice (some ⟨g, 0, none⟩) n c1) ((Perms.turnL n).take j ++ (Perms.iota n).drop j) ∧ Below w.heap.size w wr ∧ j + gg ≤ n ∧ n ≤ j + gg)
  case atStart => exact ⟨0, rfl, o1', b1, by omega, by omega⟩
  case round =>
    obtain ⟨j, rfl, ho, hbw, hm1, hm2⟩ := hrel
    by_cases hj : j < n
    · have hjI : (j : Int) < n := by omega
      have hst := over_step (ys := Perms.iota n) (Perms.turnL_get hj) (by rw [Perms.iota_len]; exact hj)
      have hge := over_get (xs := Perms.turnL n) (ys := Perms.iota n) (j := j) (by rw [Perms.turnL_len]; exact hj)
      obtain ⟨x, hx, hcx⟩ := OwnInts.cell ho (k := j) (by rw [List.length_append, List.length_take, List.length_drop, Perms.turnL_len, Perms.iota_len]; omega)
      have hfr := Own.frozen ho j
      have hmod : ((j : Int) + 1) % (n : Int) = (((j + 1) % n : Nat) : Int) := by simp
      have ho2 := OwnInts.set ho j (((j : Int) + 1) % (n : Int))
      rw [hmod, hst, ← hmod] at ho2
      have ho2' := Lib.hid ho2
      have hg2 := grown_set wr g j (.int .i64 (((j : Int) + 1) % (n : Int)))
      have hb2 := hbw.grown hg2 hbw.size (fun b hb => by cases hb; exact hgB)
      have hn0 : ((n : Int) == 0) = false := by rw [beq_eq_false_iff_ne]; omega
      have hnm : ((n : Int) == -1) = false := by rw [beq_eq_false_iff_ne]; omega
      have hm0 : 0 ≤ ((j : Int) + 1) % (n : Int) := Int.emod_nonneg _ (by omega)
      have hm9 : ((j : Int) + 1) % (n : Int) < n := Int.emod_lt_of_pos _ (by omega)
      clear hst ho2 hge hmod
      go_wp2_with fail
      go_roundg (gk - 1)
      case measure => omega
      case rel => exact ⟨j + 1, by go_num, ho2'.out, hb2, by omega, by omega⟩
    · have hje : j = n := by omega
      have h2 : OwnInts wr w.heap.size (.slice (some ⟨g, 0, none⟩) n c1) (Perms.turnL n) := by
        rw [List.take_of_length_le (by rw [Perms.turnL_len]; omega), List.drop_of_length_le (by rw [Perms.iota_len]; omega), List.append_nil] at ho
        exact ho
      have h3 := Lib.hid (H.out _ _ h2 hbw)
      clear h2
      go_wp2_with fail
      exact h3.out
theorem CyclicGroup_i {n : Nat} {w : World} {Q : Ending → World → Prop} (hn1 : 1 ≤ n) (hn : n ≤ 10)
    (hQ : ∀ v w', OwnRows w' w.heap.size w'.heap.size v (Perms.gofW n [Perms.turnL n]) → Below w.heap.size w w' → Q (.returned (.tuple #[v, .bool (Perms.gofB n [Perms.turnL n])])) w') :
    Calls Try.prog 30 #[.int .i64 n] w Q := by
  have H := Lib.hid hQ; clear hQ
  go_enter Try.func30, Try.ntmps30
  go_wp2_with fail
  refine turn_i hn1 hn ?_
  intro v1 w1 o1 b1
  have hr := Lib.hid (own_rows_one o1 b1.size).at
  have ba := b1.alloc b1.size (.cells #[v1] 25)
  obtain ⟨a1, c1, rfl, _, _, _⟩ := Own.form o1
  clear o1
  go_wp2_with fail
  refine GroupOf_i hr.out ?_
  intro v2 w2 o2 b2
  have h3 := Lib.hid (H.out v2 w2 (OwnRows.mono o2 ba.size (Nat.le_refl _)) (ba.trans (b2.mono ba.size)))
  obtain ⟨a2, c2, rfl, _, _, _⟩ := o2.form
  go_wp2_with fail
  exact h3.out
/-- A literal of two rows that lie there. -/
theorem rows_two {w : World} {u v : Value} {xs ys : List Int} (hu : IntsAt w u xs) (hv : IntsAt w v ys) : RowsAt (w.alloc (.cells #[u, v] 25)) (.slice (some ⟨w.heap.size, 0, none⟩) 2 2) [xs, ys] := by
  have h4 := World.ownsRow_lit (size := 1) w (e := 25) #[u, v] 2 (Nat.le_refl _) (by unfold maxLen; omega) (by simp)
  have h5 : Own (w.alloc (.cells #[u, v] 25)) w.heap.size 25 (.slice (some ⟨w.heap.size, 0, none⟩) 2 2) [u, v] := h4
  refine ⟨_, Own.row h5, rfl, fun k zs hk => ?_⟩
  match k, hk with
  | 0, hk => cases hk; exact ⟨_, rfl, hu.below (below_alloc w _)⟩
  | 1, hk => cases hk; exact ⟨_, rfl, hv.below (below_alloc w _)⟩
  | k + 2, hk => simp at hk
theorem DihedralGroup_i {n : Nat} {w : World} {Q : Ending → World → Prop} (hn1 : 1 ≤ n) (hn : n ≤ 10)
    (hQ : ∀ v w', OwnRows w' w.heap.size w'.heap.size v (Perms.gofW n [Perms.turnL n, (Perms.iota n).reverse]) → Below w.heap.size w w' → Q (.returned (.tuple #[v, .bool (Perms.gofB n [Perms.turnL n, (Perms.iota n).reverse])])) w') :
    Calls Try.prog 38 #[.int .i64 n] w Q := by
  have H := Lib.hid hQ; clear hQ
  go_enter Try.func38, Try.ntmps38
  go_wp2_with fail
  refine IdentityPerm_i hn1 hn ?_
  intro v1 w1 o1 b1
  obtain ⟨a1, c1, rfl, _, _, _⟩ := Own.form o1
  have o1' := Lib.hid o1
  clear o1
  go_wp2_with fail
  refine Reverse_c o1'.out ?_
  intro w2 o2 g2
  have b2 := b1.grown g2 b1.size (fun b hb => (Own.lt o1'.out hb).1)
  have o2' := Lib.hid o2
  clear o2
  go_wp2_with fail
  refine turn_i hn1 hn ?_
  intro v3 w3 o3 b3
  have b23 := b2.trans (b3.mono b2.size)
  have hr := Lib.hid (rows_two (OwnInts.at o3) (OwnInts.at (OwnInts.below o2'.out b3)))
  have ba := b23.alloc b23.size (.cells #[v3, .slice a1 (ints (Perms.iota n)).length c1] 25)
  obtain ⟨a3, c3, rfl, _, _, _⟩ := Own.form o3
  clear o3
  go_wp2_with fail
  refine GroupOf_i hr.out ?_
  intro v4 w4 o4 b4
  have h3 := Lib.hid (H.out v4 w4 (OwnRows.mono o4 ba.size (Nat.le_refl _)) (ba.trans (b4.mono ba.size)))
  obtain ⟨a4, c4, rfl, _, _, _⟩ := o4.form
  go_wp2_with fail
  exact h3.out
end Go.Proofs.Ytdibmjijpdliaaa
/- Necklaces and cyclic groups: what the law FnNecklaces asks. No program in sight. -/
set_option linter.unusedVariables false
namespace Go.Proofs.Ytdibmjijpdliaaa
open Go.RowKit

def Perms.cycL (n : Nat) : List (List Int) := (List.range n).map fun t => (List.range n).map fun i => (((i + t) % n : Nat) : Int)
theorem Perms.cyc_facts : ∀ n ∈ List.range 8, 1 ≤ n → Perms.gofW n [Perms.turnL n] = Perms.cycL n ∧ Perms.gofB n [Perms.turnL n] = true ∧ Perms.grpB (Perms.cycL n) = true ∧ (Perms.row0 (Perms.cycL n)).length = n := by decide +kernel
theorem Perms.cyc_canon : ∀ n ∈ List.range 7, 1 ≤ n → ∀ xs ∈ Perms.wordsN 3 n, Perms.canon (Perms.cycL n) xs = Words.lrW xs := by decide +kernel
theorem Perms.cyc_col : ∀ n ∈ List.range 7, ∀ k ∈ List.range 4, 1 ≤ n → 1 ≤ k → Perms.colO (Perms.cycL n) k = Nums.neck n k ∧ 1 ≤ Nums.neck n k := by decide +kernel
theorem Words.okOf {n : Nat} {k : Int} {xs : List Int} (hn1 : 1 ≤ n) (hn : n ≤ 10) (hl : xs.length = n) (hk : k ≤ 4) (hr : ∀ x ∈ xs, 0 ≤ x ∧ x < k) : Words.okW xs = true := by
  simp only [Words.okW, Bool.and_eq_true, decide_eq_true_eq, List.all_eq_true, Words.okC]
  exact ⟨by omega, fun x hx => by have := hr x hx; omega⟩
theorem Words.nextOkOf {n : Nat} {k : Int} {xs : List Int} (hn1 : 1 ≤ n) (hn : n ≤ 10) (hl : xs.length = n) (hk1 : 1 ≤ k) (hk : k ≤ 4) (hr : ∀ x ∈ xs, 0 ≤ x ∧ x < k) : Words.nextOk xs k = true := by
  unfold Words.nextOk
  rw [Words.okOf hn1 hn hl hk hr]
  simp only [Bool.true_and, Bool.and_eq_true, decide_eq_true_eq, List.all_eq_true]
  exact ⟨⟨hk1, hk⟩, fun x hx => (hr x hx).2⟩
theorem Words.pw_le {n : Nat} {k : Int} (hn : n ≤ 6) (hk1 : 1 ≤ k) (hk : k ≤ 3) : k.toNat ^ n ≤ 1024 := by
  have h1 : k.toNat ^ n ≤ 3 ^ n := Nat.pow_le_pow_left (by omega) n
  have h2 : 3 ^ n ≤ 3 ^ 6 := Nat.pow_le_pow_right (by omega) hn
  omega
theorem Words.neck_in {n : Nat} {k : Int} (hn1 : 1 ≤ n) (hn : n ≤ 6) (hk1 : 1 ≤ k) (hk : k ≤ 3) {i : Nat} {x : List Int} (hx : (Words.necksN k.toNat n)[i]? = some x) :
    x.length = n ∧ (∀ c ∈ x, 0 ≤ c ∧ c < k) ∧ Words.neckB x = true ∧ Words.numO x k = i := by
  obtain ⟨h1, h2, h3⟩ := Words.necksN_mem (List.mem_of_getElem? hx)
  have h2' : ∀ c ∈ x, 0 ≤ c ∧ c < k := fun c hc => by have := h2 c hc; omega
  have hok := Words.okOf hn1 (by omega) h1 (show k ≤ 4 by omega) h2'
  have hb : Words.neckB x = true := by rw [Words.neckB_P hok]; exact h3
  refine ⟨h1, h2', hb, ?_⟩
  have hl : Words.lrW x = x := by
    unfold Words.neckB at hb
    rw [hok, Bool.true_and] at hb
    exact of_decide_eq_true hb
  unfold Words.numO
  rw [if_pos ⟨Words.nextOkOf hn1 (by omega) h1 hk1 (by omega) h2', by rw [h1, Words.pw_pow (by omega)]; exact Int.ofNat_le.2 (Words.pw_le hn hk1 hk)⟩, hl, h1]
  exact Perms.idx_at (Words.necksN_asc _ _) hx
theorem Words.neckO_eq {n : Nat} {k : Int} (hn1 : 1 ≤ n) (hn : n ≤ 6) (hk1 : 1 ≤ k) (hk : k ≤ 3) (i : Nat) : Words.neckO n k i = (Words.necksN k.toNat n)[i]? := by
  unfold Words.neckO
  have hs : Words.smallN n k = true := by
    unfold Words.smallN
    rw [Words.pw_pow (by omega)]
    have := Words.pw_le hn hk1 hk
    simp only [Bool.and_eq_true, decide_eq_true_eq]
    refine ⟨by omega, by omega, by exact Int.ofNat_le.2 this⟩
  rw [if_pos ⟨hs, by omega⟩, Int.toNat_natCast, Int.toNat_natCast]
theorem Words.necks_len {n : Nat} {k : Int} (hn1 : 1 ≤ n) (hn : n ≤ 6) (hk1 : 1 ≤ k) (hk : k ≤ 3) : ((Words.necksN k.toNat n).length : Int) = Nums.neck n k := Words.necks_count hn1 (by omega) hk1 (by omega) (Words.pw_le hn hk1 hk)
theorem Words.cmp_next {n : Nat} {k : Int} {i : Nat} {x y : List Int} (hx : (Words.necksN k.toNat n)[i]? = some x) (hy : (Words.necksN k.toNat n)[i + 1]? = some y) : Words.cmpL x y < 0 :=
  Words.necksN_asc _ _ i (i + 1) x y (by omega) hx hy
theorem Words.num_lr {n : Nat} {k : Int} {xs : List Int} (hn1 : 1 ≤ n) (hn : n ≤ 6) (hk1 : 1 ≤ k) (hk : k ≤ 3) (hl : xs.length = n) (hr : ∀ x ∈ xs, 0 ≤ x ∧ x < k) : Words.numO (Words.lrW xs) k = Words.numO xs k := by
  have hno := Words.nextOkOf hn1 (by omega) hl hk1 (show k ≤ 4 by omega) hr
  have hm := Words.lrW_mem hno
  rw [hl] at hm
  obtain ⟨i, hi⟩ := List.getElem?_of_mem hm
  rw [(Words.neck_in hn1 hn hk1 hk hi).2.2.2]
  unfold Words.numO
  rw [if_pos ⟨hno, by rw [hl, Words.pw_pow (by omega)]; exact Int.ofNat_le.2 (Words.pw_le hn hk1 hk)⟩, hl]
  exact (Perms.idx_at (Words.necksN_asc _ _) hi).symm
theorem Perms.cyc_word {n : Nat} {k : Int} {xs : List Int} (hn1 : 1 ≤ n) (hn : n ≤ 6) (hk1 : 1 ≤ k) (hk : k ≤ 3) (hl : xs.length = n) (hr : ∀ x ∈ xs, 0 ≤ x ∧ x < k) :
    Words.okW xs = true ∧ Perms.fitsB (Perms.cycL n) xs = true ∧ Perms.canonW (Perms.cycL n) xs = Words.lrW xs := by
  have hok := Words.okOf hn1 (by omega) hl (show k ≤ 4 by omega) hr
  obtain ⟨h1, h2, h3, h4⟩ := Perms.cyc_facts n (List.mem_range.2 (by omega)) hn1
  have hf : Perms.fitsB (Perms.cycL n) xs = true := by
    unfold Perms.fitsB
    rw [h3, hok, h4, hl]
    simp
  refine ⟨hok, hf, ?_⟩
  unfold Perms.canonW
  rw [if_pos hf]
  exact Perms.cyc_canon n (List.mem_range.2 (by omega)) hn1 xs (Perms.wordsN_mem.2 ⟨hl, fun x hx => by have := hr x hx; exact ⟨this.1, by show x < ((3 : Nat) : Int); omega⟩⟩)
end Go.Proofs.Ytdibmjijpdliaaa
/- Bracelets and dihedral groups: what the law FnBracelets asks. No program in sight. -/
set_option linter.unusedVariables false
namespace Go.Proofs.Ytdibmjijpdliaaa
open Go.RowKit

def Perms.dihL : Nat → List (List Int)
  | 1 => [[0]]
  | 2 => [[0, 1], [1, 0]]
  | 3 => [[0, 1, 2], [0, 2, 1], [1, 0, 2], [1, 2, 0], [2, 0, 1], [2, 1, 0]]
  | 4 => [[0, 1, 2, 3], [0, 3, 2, 1], [1, 0, 3, 2], [1, 2, 3, 0], [2, 1, 0, 3], [2, 3, 0, 1], [3, 0, 1, 2], [3, 2, 1, 0]]
  | 5 => [[0, 1, 2, 3, 4], [0, 4, 3, 2, 1], [1, 0, 4, 3, 2], [1, 2, 3, 4, 0], [2, 1, 0, 4, 3], [2, 3, 4, 0, 1], [3, 2, 1, 0, 4], [3, 4, 0, 1, 2], [4, 0, 1, 2, 3], [4, 3, 2, 1, 0]]
  | 6 => [[0, 1, 2, 3, 4, 5], [0, 5, 4, 3, 2, 1], [1, 0, 5, 4, 3, 2], [1, 2, 3, 4, 5, 0], [2, 1, 0, 5, 4, 3], [2, 3, 4, 5, 0, 1], [3, 2, 1, 0, 5, 4], [3, 4, 5, 0, 1, 2], [4, 3, 2, 1, 0, 5], [4, 5, 0, 1, 2, 3], [5, 0, 1, 2, 3, 4], [5, 4, 3, 2, 1, 0]]
  | 7 => [[0, 1, 2, 3, 4, 5, 6], [0, 6, 5, 4, 3, 2, 1], [1, 0, 6, 5, 4, 3, 2], [1, 2, 3, 4, 5, 6, 0], [2, 1, 0, 6, 5, 4, 3], [2, 3, 4, 5, 6, 0, 1], [3, 2, 1, 0, 6, 5, 4], [3, 4, 5, 6, 0, 1, 2], [4, 3, 2, 1, 0, 6, 5], [4, 5, 6, 0, 1, 2, 3], [5, 4, 3, 2, 1, 0, 6], [5, 6, 0, 1, 2, 3, 4], [6, 0, 1, 2, 3, 4, 5], [6, 5, 4, 3, 2, 1, 0]]
  | _ => []
theorem Perms.dih_facts : ∀ n ∈ List.range 8, 1 ≤ n → Perms.gofW n [Perms.turnL n, (Perms.iota n).reverse] = Perms.dihL n ∧ Perms.gofB n [Perms.turnL n, (Perms.iota n).reverse] = true ∧ Perms.grpB (Perms.dihL n) = true ∧ (Perms.row0 (Perms.dihL n)).length = n := by decide +kernel
theorem Perms.dih_canon : ∀ n ∈ List.range 8, 1 ≤ n → ∀ xs ∈ Perms.wordsN 2 n, Perms.canon (Perms.dihL n) xs = Words.brW xs ∧ Words.brW xs.reverse = Words.brW xs := by decide +kernel
/-- Mirrored ones among the first j bracelets. -/
def Words.mirTo (l : List (List Int)) (j : Nat) : Nat := ((l.take j).filter Words.mirB).length
theorem Words.mirTo_step {l : List (List Int)} {j : Nat} {x : List Int} (hx : l[j]? = some x) : Words.mirTo l (j + 1) = Words.mirTo l j + (if Words.mirB x = true then 1 else 0) := by
  unfold Words.mirTo
  rw [List.take_add_one, hx, List.filter_append, List.length_append]
  by_cases h : Words.mirB x = true <;> simp [h]
theorem Words.mirTo_le (l : List (List Int)) (j : Nat) : Words.mirTo l j ≤ j := by
  unfold Words.mirTo
  have h := List.length_filter_le Words.mirB (l.take j)
  rw [List.length_take] at h
  omega
theorem Words.brc_facts : ∀ n ∈ List.range 8, 1 ≤ n → ∀ k ∈ List.range 3, 1 ≤ k → Words.smallN n k = true ∧ ((Words.enumW Words.brB n k).length : Int) = Nums.brac n k ∧ Perms.colO (Perms.dihL n) k = Nums.brac n k ∧ (Words.mirTo (Words.enumW Words.brB n k) (Words.enumW Words.brB n k).length : Int) = Nums.mirr n k ∧ ((Words.enumW Words.brB n k).length : Int) - (Words.mirTo (Words.enumW Words.brB n k) (Words.enumW Words.brB n k).length : Int) = Nums.hand n k := by decide +kernel
theorem Words.enum_asc (P : List Int → Bool) (n : Nat) (k : Int) : Perms.Asc (Words.enumW P n k) := (Perms.wordsN_asc n).filter P
theorem Words.brc_in {n : Nat} {k : Int} (hn1 : 1 ≤ n) (hn : n ≤ 10) (hk1 : 1 ≤ k) (hk : k ≤ 4) {x : List Int} (hx : x ∈ Words.enumW Words.brB n k) : x.length = n ∧ Words.brB x = true ∧ Words.neckB x = true := by
  obtain ⟨h1, h2⟩ := List.mem_filter.1 hx
  have hok := Words.words_ok hn1 hn hk1 hk h1
  exact ⟨(Perms.wordsN_mem.1 h1).1, h2, by rw [Words.neckB_P hok]; exact Words.brB_neck hok h2⟩
theorem Words.brc_len {n : Nat} {k : Int} (hn : n ≤ 7) (hk : k ≤ 2) : (Words.enumW Words.brB n k).length ≤ 128 := by
  have h := List.length_filter_le Words.brB (Perms.wordsN k.toNat n)
  rw [Perms.wordsN_len] at h
  have h1 : k.toNat ^ n ≤ 2 ^ n := Nat.pow_le_pow_left (by omega) n
  have h2 : 2 ^ n ≤ 2 ^ 7 := Nat.pow_le_pow_right (by omega) hn
  unfold Words.enumW
  omega
theorem Perms.dih_word {n : Nat} {k : Int} {xs : List Int} (hn1 : 1 ≤ n) (hn : n ≤ 7) (hk : k ≤ 2) (hl : xs.length = n) (hr : ∀ x ∈ xs, 0 ≤ x ∧ x < k) :
    Words.okW xs = true ∧ Perms.fitsB (Perms.dihL n) xs = true ∧ Perms.canonW (Perms.dihL n) xs = Words.brW xs ∧ Words.mirW xs = xs.reverse ∧ Words.brW xs.reverse = Words.brW xs ∧ Words.okW xs.reverse = true := by
  have hok := Words.okOf hn1 (by omega) hl (show k ≤ 4 by omega) hr
  obtain ⟨h1, h2, h3, h4⟩ := Perms.dih_facts n (List.mem_range.2 (by omega)) hn1
  have hf : Perms.fitsB (Perms.dihL n) xs = true := by
    unfold Perms.fitsB
    rw [h3, hok, h4, hl]
    simp
  obtain ⟨c1, c2⟩ := Perms.dih_canon n (List.mem_range.2 (by omega)) hn1 xs (Perms.wordsN_mem.2 ⟨hl, fun x hx => by have := hr x hx; exact ⟨this.1, by show x < ((2 : Nat) : Int); omega⟩⟩)
  refine ⟨hok, hf, ?_, ?_, c2, by rw [Words.okW_reverse]; exact hok⟩
  · unfold Perms.canonW
    rw [if_pos hf]
    exact c1
  · unfold Words.mirW
    rw [if_pos hok]
end Go.Proofs.Ytdibmjijpdliaaa
/- The law FnBracelets: what it computes. -/
set_option linter.unusedVariables false
namespace Go.Proofs.Ytdibmjijpdliaaa
open Go.RowKit

set_option maxHeartbeats 6400000 in
set_option maxRecDepth 60000 in
theorem FnBracelets_l {v : Value} {bs : List Int} {w : World} {Q : Ending → World → Prop} (hb : BytesAt w v bs) (hQ : ∀ w', Below w.heap.size w w' → Q (.returned (.bool true)) w') :
    Calls Try.prog 7 #[v] w Q := by
  have H := Lib.hid hQ; clear hQ
  have hb' := hb
  obtain ⟨ao, ca, rfl, la, lca, cca⟩ := hb'.form
  rw [show (bytes bs).length = bs.length from by simp [bytes]] at *
  by_cases hlen : (bs.length : Int) ≤ 1048576
  rotate_left
  · have hl2 : (1048576 : Int) < bs.length := by omega
    go_enter Try.func7, Try.ntmps7
    go_wp2_with fail
    exact H.out _ (Below.refl _ _)
  have hb0 := Lib.hid hb
  clear hb hb'
  go_enter Try.func7, Try.ntmps7
  go_wp2_with fail
  refine MakeNum_c hb0.out (by omega) (by omega) ?_
  intro x1 w1 hx0 hx1 b1
  obtain ⟨n, hn⟩ : ∃ n : Nat, 1 + x1 % 7 = (n : Int) := ⟨(1 + x1 % 7).toNat, by omega⟩
  have hn1 : 1 ≤ n := by omega
  have hn2 : n ≤ 7 := by omega
  have hb1 := Lib.hid (hb0.out.below b1)
  go_wp2_with fail
  clear hn hx0 hx1
  refine MakeNum_c hb1.out (by omega) (by omega) ?_
  intro x3 w2 hx30 hx31 b2
  obtain ⟨k, hk⟩ : ∃ k : Int, k = 1 + x3 % 2 := ⟨_, rfl⟩
  have hk1 : 1 ≤ k := by omega
  have hk2 : k ≤ 2 := by omega
  have hb2 := Lib.hid (hb1.out.below b2)
  have bw2 : Below w.heap.size w w2 := b1.trans (b2.mono b1.size)
  obtain ⟨f1, f2, f3, f4⟩ := Perms.dih_facts n (List.mem_range.2 (by omega)) hn1
  have hf := Words.brc_facts n (List.mem_range.2 (by omega)) hn1 k.toNat (List.mem_range.2 (by omega)) (by omega)
  rw [Int.toNat_of_nonneg (by omega)] at hf
  obtain ⟨q1, q2, q3, q4, q5⟩ := hf
  obtain ⟨G, hG⟩ : ∃ G, G = Perms.dihL n := ⟨_, rfl⟩
  rw [← hG] at f1 f3 q3
  obtain ⟨l, hl⟩ : ∃ l, l = Words.enumW Words.brB n k := ⟨_, rfl⟩
  rw [← hl] at q2 q4 q5
  have hlO : Words.enumO Words.brB n k = l := by unfold Words.enumO; rw [if_pos q1, Int.toNat_natCast, hl]
  have hlm : Hid (∀ x ∈ l, x.length = n ∧ Words.brB x = true ∧ Words.neckB x = true) := Lib.hid (by rw [hl]; exact fun x hx => Words.brc_in hn1 (by omega) hk1 (by omega) hx)
  have hla : Hid (Perms.Asc l) := Lib.hid (by rw [hl]; exact Words.enum_asc _ _ _)
  have hll : l.length ≤ 128 := by rw [hl]; exact Words.brc_len hn2 hk2
  have hG' := Lib.hid hG
  have q2' := Lib.hid q2
  have q3' := Lib.hid q3
  have q4' := Lib.hid q4
  have q5' := Lib.hid q5
  have hlO' := Lib.hid hlO
  clear f3 f4 q2 q3 q4 q5 hG hlO hl
  go_wp2_with fail
  rw [← hk]
  clear hk hx30 hx31
  refine BraceletsOf_i ?_
  intro v3 w3 o3 b3
  rw [hlO'.out] at o3
  rw [q1]
  obtain ⟨a3, c3, rfl, _, _, _⟩ := o3.form
  have hl3 := Lib.hid o3.at
  have bw3 := bw2.trans (b3.mono bw2.size)
  have hb3 := Lib.hid (hb2.out.below b3)
  clear o3 q1
  go_wp2_with fail
  refine DihedralGroup_i hn1 (by omega) ?_
  intro v4 w4 o4 b4
  rw [f1] at o4
  rw [f2]
  clear f1 f2
  obtain ⟨a4, c4, rfl, _, _, _⟩ := o4.form
  have hg4 := Lib.hid o4.at
  have hl4 := Lib.hid (hl3.out.below b4)
  have bw4 := bw3.trans (b4.mono bw3.size)
  have hb4 := Lib.hid (hb3.out.below b4)
  clear o4
  go_wp2_with fail
  refine CountBracelets_i ?_
  intro w5 d5
  rw [← q2'.out]
  have hg5 := Lib.hid (hg4.out.drawn d5)
  have hl5 := Lib.hid (hl4.out.drawn d5)
  have hb5 := Lib.hid (hb4.out.drawn d5)
  have bw5 := bw4.trans (d5.below _)
  go_wp2_with fail
  refine CountColorings_i hg5.out ?_
  intro w6 b6
  rw [q3'.out, ← q2'.out]
  have hg6 := Lib.hid (hg5.out.below b6)
  have hl6 := Lib.hid (hl5.out.below b6)
  have hb6 := Lib.hid (hb5.out.below b6)
  have bw6 := bw5.trans (b6.mono bw5.size)
  go_wp2_with fail
  go_loopg [9, 67] l.length (fun gg u9 u67 wr => ∃ (j : Nat), u67 = .int .i64 j ∧ u9 = .int .i64 (Words.mirTo l j : Nat) ∧ Below w6.heap.size w6 wr ∧ j + gg ≤ l.length ∧ l.length ≤ j + gg)
  case atStart => exact ⟨0, rfl, rfl, Below.refl _ _, by omega, by omega⟩
  case round =>
    obtain ⟨j, rfl, rfl, bj, hm1, hm2⟩ := hrel
    by_cases hj : j < l.length
    · have hjI : (j : Int) < l.length := by omega
      obtain ⟨b9, f9, u, x, e9, hx, hcx, hux⟩ := (hl6.out.below bj).cell (k := j) hj
      obtain ⟨ax, cx, rfl, _, _, _⟩ := hux.form
      have hux' := Lib.hid hux
      obtain ⟨hxl, hxb, hxn⟩ := hlm.out x (List.mem_of_getElem? hx.out)
      have hxl9 : x.length ≤ 1048576 := by omega
      have hxb' := Lib.hid hxb
      have hxn' := Lib.hid hxn
      have hst := Words.mirTo_step hx.out
      have hle := Words.mirTo_le l j
      cases hmb : Words.mirB x with
      | false =>
        rw [if_neg (by rw [hmb]; simp)] at hst
        have hst' := Lib.hid hst
        have hmb' := Lib.hid hmb
        clear hux hxb hxn hst hmb hxl
        by_cases h0 : j = 0
        · subst h0
          rw [Nat.add_zero] at hcx
          cases e9
          go_wp2_with (first
            | (go_at_call 40; refine IsBracelet_i hux'.out hxl9 ?_; intro w8 b8; rw [hxb'.out]; have bj8 := bj.trans (b8.mono bj.size); have hux8 := hux'.out.below b8)
            | (go_at_call 33; refine IsNecklace_i hux8 hxl9 ?_; intro w9 b9; rw [hxn'.out]; have bj9 := bj8.trans (b9.mono bj8.size); have hux9 := hux8.below b9)
            | (go_at_call 41; refine IsMirrored_i hux9 hxl9 ?_; intro w10 b10; rw [hmb'.out]; have bj10 := bj9.trans (b10.mono bj9.size)))
          go_roundg (gk - 1)
          case measure => omega
          case rel => exact ⟨1, by go_num, by rw [hst'.out]; go_num, bj10, by omega, by omega⟩
        · obtain ⟨m, hmj⟩ : ∃ m : Nat, (j : Int) - 1 = m := ⟨j - 1, by omega⟩
          obtain ⟨b8, f8, u', y, e8, hy, hcy, huy⟩ := (hl6.out.below bj).cell (k := m) (by omega)
          obtain ⟨ay, cy, rfl, _, _, _⟩ := huy.form
          have huy' := Lib.hid huy
          rw [e9] at e8
          obtain ⟨rfl, rfl⟩ : b9 = b8 ∧ f9 = f8 := by
            simp only [Option.some.injEq, Addr.mk.injEq] at e8
            exact ⟨e8.1, e8.2.1⟩
          cases e9
          have hmI : (m : Int) < l.length := by omega
          have hm0 : (0 : Int) < (j : Int) := by omega
          have hde : Hid (decide (Words.cmpL y x < 0) = true) := Lib.hid (decide_eq_true (hla.out m j y x (by omega) hy.out hx.out))
          clear huy
          go_wp2_with (first
            | (go_at_call 40; refine IsBracelet_i hux'.out hxl9 ?_; intro w8 b8; rw [hxb'.out]; have bj8 := bj.trans (b8.mono bj.size); have hux8 := hux'.out.below b8; have huy8 := huy'.out.below b8; have hcy8 := below_cells b8 _ _ hcy)
            | (go_at_call 33; refine IsNecklace_i hux8 hxl9 ?_; intro w9 b9; rw [hxn'.out]; have bj9 := bj8.trans (b9.mono bj8.size); have hux9 := hux8.below b9; have huy9 := huy8.below b9; have hcy9 := below_cells b9 _ _ hcy8)
            | (go_at_call 15; refine lessLaw_f hde.out huy9 hux9 ?_)
            | (go_at_call 41; refine IsMirrored_i hux9 hxl9 ?_; intro w10 b10; rw [hmb'.out]; have bj10 := bj9.trans (b10.mono bj9.size)))
          go_roundg (gk - 1)
          case measure => omega
          case rel => exact ⟨j + 1, by go_num, by rw [hst'.out]; go_num, bj10, by omega, by omega⟩
      | true =>
        rw [if_pos hmb] at hst
        have hst' := Lib.hid hst
        have hmb' := Lib.hid hmb
        clear hux hxb hxn hst hmb hxl
        by_cases h0 : j = 0
        · subst h0
          rw [Nat.add_zero] at hcx
          cases e9
          go_wp2_with (first
            | (go_at_call 40; refine IsBracelet_i hux'.out hxl9 ?_; intro w8 b8; rw [hxb'.out]; have bj8 := bj.trans (b8.mono bj.size); have hux8 := hux'.out.below b8)
            | (go_at_call 33; refine IsNecklace_i hux8 hxl9 ?_; intro w9 b9; rw [hxn'.out]; have bj9 := bj8.trans (b9.mono bj8.size); have hux9 := hux8.below b9)
            | (go_at_call 41; refine IsMirrored_i hux9 hxl9 ?_; intro w10 b10; rw [hmb'.out]; have bj10 := bj9.trans (b10.mono bj9.size)))
          go_roundg (gk - 1)
          case measure => omega
          case rel => exact ⟨1, by go_num, by rw [hst'.out]; go_num, bj10, by omega, by omega⟩
        · obtain ⟨m, hmj⟩ : ∃ m : Nat, (j : Int) - 1 = m := ⟨j - 1, by omega⟩
          obtain ⟨b8, f8, u', y, e8, hy, hcy, huy⟩ := (hl6.out.below bj).cell (k := m) (by omega)
          obtain ⟨ay, cy, rfl, _, _, _⟩ := huy.form
          have huy' := Lib.hid huy
          rw [e9] at e8
          obtain ⟨rfl, rfl⟩ : b9 = b8 ∧ f9 = f8 := by
            simp only [Option.some.injEq, Addr.mk.injEq] at e8
            exact ⟨e8.1, e8.2.1⟩
          cases e9
          have hmI : (m : Int) < l.length := by omega
          have hm0 : (0 : Int) < (j : Int) := by omega
          have hde : Hid (decide (Words.cmpL y x < 0) = true) := Lib.hid (decide_eq_true (hla.out m j y x (by omega) hy.out hx.out))
          clear huy
          go_wp2_with (first
            | (go_at_call 40; refine IsBracelet_i hux'.out hxl9 ?_; intro w8 b8; rw [hxb'.out]; have bj8 := bj.trans (b8.mono bj.size); have hux8 := hux'.out.below b8; have huy8 := huy'.out.below b8; have hcy8 := below_cells b8 _ _ hcy)
            | (go_at_call 33; refine IsNecklace_i hux8 hxl9 ?_; intro w9 b9; rw [hxn'.out]; have bj9 := bj8.trans (b9.mono bj8.size); have hux9 := hux8.below b9; have huy9 := huy8.below b9; have hcy9 := below_cells b9 _ _ hcy8)
            | (go_at_call 15; refine lessLaw_f hde.out huy9 hux9 ?_)
            | (go_at_call 41; refine IsMirrored_i hux9 hxl9 ?_; intro w10 b10; rw [hmb'.out]; have bj10 := bj9.trans (b10.mono bj9.size)))
          go_roundg (gk - 1)
          case measure => omega
          case rel => exact ⟨j + 1, by go_num, by rw [hst'.out]; go_num, bj10, by omega, by omega⟩
    · obtain rfl : j = l.length := by omega
      have hb7 := Lib.hid (hb6.out.below bj)
      have hg7 := Lib.hid (hg6.out.below bj)
      have bw7 := bw6.trans (bj.mono bw6.size)
      have hmr : Hid ((Words.mirTo l l.length : Int) = Nums.mirr n k) := q4'
      have hmh : Hid ((l.length : Int) - (Words.mirTo l l.length : Int) = Nums.hand n k) := q5'
      obtain ⟨M, hM⟩ : ∃ M, M = Words.mirTo l l.length := ⟨_, rfl⟩
      have hMl : M ≤ l.length := by rw [hM]; exact Words.mirTo_le l l.length
      rw [← hM] at hmr hmh ⊢
      clear hM
      go_wp2_with fail
      refine MakeColors_c (n := n) hb7.out (by omega) (by omega) hn1 (by omega) hk1 (by omega) ?_
      intro u cs w12 hcsl hcsr oc bc
      obtain ⟨ac, kc, rfl, _, _, _⟩ := Own.form oc
      rw [ints_len] at oc ⊢
      have hc12 := Lib.hid (OwnInts.at oc)
      have hg12 := Lib.hid (hg7.out.below bc)
      have bw12 := bw7.trans (bc.mono bw7.size)
      obtain ⟨k1, k2, k3, k4, k5, k6⟩ := Perms.dih_word hn1 hn2 hk2 hcsl hcsr
      rw [← hG'.out] at k2 k3
      have hcs9 : cs.length ≤ 1048576 := by omega
      have hcr9 : cs.reverse.length ≤ 1048576 := by rw [List.length_reverse]; omega
      have k1' := Lib.hid k1
      have k2' := Lib.hid k2
      have k3' := Lib.hid k3
      have k4' := Lib.hid k4
      have k5' := Lib.hid k5
      have k6' := Lib.hid k6
      clear oc k1 k2 k3 k4 k5 k6 hcsr hcsl
      go_wp2_with fail
      refine MirrorWord_i hc12.out hcs9 ?_
      intro v13 w13 o13 b13
      rw [k4'.out] at o13
      rw [k1'.out]
      obtain ⟨a13, c13, rfl, _, _, _⟩ := Own.form o13
      have hm13 := Lib.hid (OwnInts.at o13)
      have hc13 := Lib.hid (hc12.out.below b13)
      have hg13 := Lib.hid (hg12.out.below b13)
      have bw13 := bw12.trans (b13.mono bw12.size)
      clear o13
      go_wp2_with fail
      refine LeastBracelet_i hc13.out hcs9 ?_
      intro v14 w14 o14 b14
      rw [k1'.out]
      obtain ⟨L, hL⟩ : ∃ L, L = Words.brW cs := ⟨_, rfl⟩
      rw [← hL] at o14
      have k3L : Hid (Perms.canonW G cs = L) := Lib.hid (by rw [k3'.out, hL])
      have k5L : Hid (Words.brW cs.reverse = L) := Lib.hid (by rw [k5'.out, hL])
      obtain ⟨a14, c14, rfl, _, _, _⟩ := Own.form o14
      have ha14 := Lib.hid (OwnInts.at o14)
      have hm14 := Lib.hid (hm13.out.below b14)
      have hc14 := Lib.hid (hc13.out.below b14)
      have hg14 := Lib.hid (hg13.out.below b14)
      have bw14 := bw13.trans (b14.mono bw13.size)
      clear o14 hL
      go_wp2_with fail
      refine LeastBracelet_i hm14.out hcr9 ?_
      intro v15 w15 o15 b15
      rw [k6'.out]
      rw [k5L.out] at o15
      obtain ⟨a15, c15, rfl, _, _, _⟩ := Own.form o15
      have hb15 := Lib.hid (OwnInts.at o15)
      have ha15 := Lib.hid (ha14.out.below b15)
      have hc15 := Lib.hid (hc14.out.below b15)
      have hg15 := Lib.hid (hg14.out.below b15)
      have bw15 := bw14.trans (b15.mono bw14.size)
      clear o15
      go_wp2_with fail
      refine CanonOf_i hg15.out hc15.out ?_
      intro v16 w16 o16 b16
      rw [k3L.out] at o16
      rw [k2'.out]
      obtain ⟨a16, c16, rfl, _, _, _⟩ := Own.form o16
      have hd16 := Lib.hid (OwnInts.at o16)
      have hb16 := Lib.hid (hb15.out.below b16)
      have ha16 := Lib.hid (ha15.out.below b16)
      have bw16 := bw15.trans (b16.mono bw15.size)
      clear o16
      go_wp2_with (first
        | (go_at_call 44; refine CountMirrored_i ?_; intro w17 d17; rw [← hmr.out]; have hd17 := hd16.out.drawn d17; have hb17 := hb16.out.drawn d17; have ha17 := ha16.out.drawn d17; have bw17 := bw16.trans (d17.below _))
        | (go_at_call 45; refine HandedPairs_i ?_; intro w18 d18; rw [← hmh.out]; have hd18 := hd17.drawn d18; have hb18 := hb17.drawn d18; have ha18 := ha17.drawn d18; have bw18 := bw17.trans (d18.below _))
        | (go_at_call 12; refine same_c ha18 hb18 ?_; intro w19 d19; rw [decide_eq_true (rfl : L = L)]; have hd19 := hd18.drawn d19; have ha19 := ha18.drawn d19; have bw19 := bw18.trans (d19.below _))
        | (go_at_call 12; refine same_c ha19 hd19 ?_; intro w20 d20; rw [decide_eq_true (rfl : L = L)]; have bw20 := bw19.trans (d20.below _)))
      exact H.out _ bw20
end Go.Proofs.Ytdibmjijpdliaaa
