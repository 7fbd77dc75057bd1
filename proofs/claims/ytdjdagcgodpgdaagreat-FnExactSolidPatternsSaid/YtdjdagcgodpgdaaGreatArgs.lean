/-
  From a law's contract to its row: how arguments are opened.
-/
import Derived.Test.YtdjdagcgodpgdaaGreatDrawn
import Derived.Test.YtdjdagcgodpgdaaGreatMem
import Derived.Test.YtdjdagcgodpgdaaGreatMemS
import Derived.Test.YtdjdagcgodpgdaaGreatRows
import Derived.ProofKit
import Derived.OpenShut
import Derived.SizedLaws
import Derived.Carry
set_option linter.unusedVariables false
namespace Go.Proofs.YtdjdagcgodpgdaaGreat
open Go.ChangeShapes Go.WideShapes Go.ChangeAt Go.RowKit

theorem Tryz.own : ownKnob Tryz.prog.godebug = none := by kernel_rfl
theorem Tryz.laidOut : laidOutB Tryz.prog = true := by kernel_rfl
theorem Tryz.cellsInt : Tryz.prog.cellsOf 3 = 1 := by kernel_rfl
theorem spot_none {w : World} {b off : Nat} {spot : Option Nat} {x : Value} (h : w.cell? ((⟨b, off, spot⟩ : Addr).add 0) = some x) : spot = none := by simpa [Addr.add] using World.cell?_spot h
theorem cell_add {w : World} {b off i : Nat} {x : Value} (h : w.cell? ((⟨b, off, none⟩ : Addr).add i) = some x) : w.cell? ⟨b, off + i, none⟩ = some x := by
  have e : (⟨b, off, none⟩ : Addr).add i = ⟨b, off + i, none⟩ := by unfold Addr.add; split <;> simp_all
  rw [← e]; exact h
/-- A slice of integers that came in. -/
theorem ints_of_trod {H : Type} {enc : TypeId × Value → H} {W : World} {base : Nat} {spare : Nat → Bool} {held : Bool} {v : Value} {d : DataW H} {p : List MemPlace}
    (h : DataW.Trod enc Tryz.prog W base spare held 36 v d p) (hv : ∃ a n c, v = .slice a n c) : ∃ xs, IntsAt W v xs := by
  obtain ⟨a0, n0, c0, rfl⟩ := hv
  obtain ⟨fuel, hf⟩ := h
  rcases open_ints Tryz.underlying36 Tryz.underlying3 Tryz.cellsInt hf with ⟨hcs, hx⟩ | ⟨a, len, cap, zs, hcs, _, hl, hm, hz, hx, hcell, hwz⟩
  · simp [Value.cells] at hcs
    obtain ⟨rfl, rfl, rfl⟩ := hcs
    exact ⟨[], none, 0, rfl, Nat.le_refl _, by unfold maxLen; omega, fun _ => rfl, fun k x hk => by simp [ints] at hk⟩
  · simp [Value.cells] at hcs
    obtain ⟨rfl, rfl, rfl⟩ := hcs
    have hlz : n0 ≤ zs.length := by rw [hz]; split <;> omega
    refine ⟨zs.take n0, some a, c0, ?_, ?_, hm, (fun h => by cases h), fun k x hk => ?_⟩
    · rw [ints_len, List.length_take, Nat.min_eq_left hlz]
    · rw [ints_len, List.length_take]; omega
    · obtain ⟨b, off, spot⟩ := a
      have hk' : k < n0 := by have := (List.getElem?_eq_some_iff.1 hk).1; rw [ints_len, List.length_take] at this; omega
      obtain rfl := spot_none (hcell 0 (by omega))
      have hc := cell_add (hcell k (by omega))
      refine ⟨b, off, rfl, ?_⟩
      rw [hc]
      rw [ints_get, List.getElem?_take, if_pos hk', List.getElem?_eq_getElem (by omega)] at hk
      rw [← hk]
      simp [List.getD, List.getElem?_eq_getElem (show k < zs.length by omega)]
theorem Tryz.cellsInts : Tryz.prog.cellsOf 36 = 1 := by kernel_rfl
theorem ints_of_cells {H : Type} {enc : TypeId × Value → H} {W : World} {base : Nat} {spare : Nat → Bool} {held : Bool} {fuel : Nat} {cs : List Value} {x : DataW H × List MemPlace}
    (h : DataW.trod enc Tryz.prog W base spare held fuel 36 cs = some x) : ∃ v xs, cs = [v] ∧ IntsAt W v xs := by
  rcases open_ints Tryz.underlying36 Tryz.underlying3 Tryz.cellsInt h with ⟨hcs, hx⟩ | ⟨a, len, cap, zs, hcs, _, hl, hm, hz, hx, hcell, hwz⟩
  · exact ⟨_, [], hcs, none, 0, rfl, Nat.le_refl _, by unfold maxLen; omega, fun _ => rfl, fun k x hk => by simp [ints] at hk⟩
  · have hlz : len ≤ zs.length := by rw [hz]; split <;> omega
    refine ⟨_, zs.take len, hcs, some a, cap, ?_, ?_, hm, (fun h => by cases h), fun k x hk => ?_⟩
    · rw [ints_len, List.length_take, Nat.min_eq_left hlz]
    · rw [ints_len, List.length_take]; omega
    · obtain ⟨b, off, spot⟩ := a
      have hk' : k < len := by have := (List.getElem?_eq_some_iff.1 hk).1; rw [ints_len, List.length_take] at this; omega
      obtain rfl := spot_none (hcell 0 (by omega))
      have hc := cell_add (hcell k (by omega))
      refine ⟨b, off, rfl, ?_⟩
      rw [hc]
      rw [ints_get, List.getElem?_take, if_pos hk', List.getElem?_eq_getElem (by omega)] at hk
      rw [← hk]
      simp [List.getD, List.getElem?_eq_getElem (show k < zs.length by omega)]
/-- A slice of slices of integers that came in. -/
theorem intss_of_trod {H : Type} {enc : TypeId × Value → H} {W : World} {base : Nat} {spare : Nat → Bool} {held : Bool} {v : Value} {d : DataW H} {p : List MemPlace}
    (h : DataW.Trod enc Tryz.prog W base spare held 22 v d p) (hv : ∃ a n c, v = .slice a n c) : ∃ xss, RowsAt W v xss := by
  obtain ⟨a0, n0, c0, rfl⟩ := hv
  obtain ⟨fuel, hf⟩ := h
  rcases DataW.trod_slice Tryz.underlying22 hf with ⟨hcs, hx⟩ | ⟨a, len, cap, elems, rest, n, _, hcs, _, hb, hl, hm, hlen, hel, hsp, hns⟩
  · simp [Value.cells] at hcs
    obtain ⟨rfl, rfl, rfl⟩ := hcs
    exact ⟨[], RowsAt.nil W⟩
  · simp [Value.cells] at hcs
    obtain ⟨rfl, rfl, rfl⟩ := hcs
    obtain ⟨b, off, spot⟩ := a
    have each : ∀ i, i < n0 → ∃ u xs, W.cell? ((⟨b, off, spot⟩ : Addr).add i) = some u ∧ IntsAt W u xs := fun i hi => by
      have e := hel i hi
      rw [List.getElem?_eq_getElem (by omega), Tryz.cellsInts, Nat.mul_one, Option.bind_eq_some_iff] at e
      obtain ⟨cs', hcs', hy⟩ := e
      obtain ⟨u, xs, rfl, hi⟩ := ints_of_cells hy
      exact ⟨u, xs, cell_of_cells?_one hcs', hi⟩
    have build : ∀ m, m ≤ n0 → ∃ (vs : List Value) (xss : List (List Int)), vs.length = m ∧ xss.length = m ∧ (∀ k u, vs[k]? = some u → W.cell? ((⟨b, off, spot⟩ : Addr).add k) = some u) ∧
        ∀ (k : Nat) (xs : List Int), xss[k]? = some xs → ∃ u, vs[k]? = some u ∧ IntsAt W u xs := by
      intro m
      induction m with
      | zero => exact fun _ => ⟨[], [], rfl, rfl, fun k u h => by simp at h, fun k xs h => by simp at h⟩
      | succ m ih =>
        intro hm
        obtain ⟨vs, xss, l1, l2, c1, c2⟩ := ih (by omega)
        obtain ⟨u, xs, e1, e2⟩ := each m (by omega)
        refine ⟨vs ++ [u], xss ++ [xs], by simp [l1], by simp [l2], fun k z hk => ?_, fun k zs hk => ?_⟩
        · by_cases hkm : k < m
          · rw [List.getElem?_append_left (by omega)] at hk; exact c1 k z hk
          · have := (List.getElem?_eq_some_iff.1 hk).1
            rw [List.length_append, List.length_singleton] at this
            obtain rfl : k = m := by omega
            rw [List.getElem?_append_right (by omega), l1, Nat.sub_self] at hk
            simp at hk; subst hk; exact e1
        · by_cases hkm : k < m
          · rw [List.getElem?_append_left (by omega)] at hk
            obtain ⟨u', h1, h2⟩ := c2 k zs hk
            exact ⟨u', by rw [List.getElem?_append_left (by omega)]; exact h1, h2⟩
          · have := (List.getElem?_eq_some_iff.1 hk).1
            rw [List.length_append, List.length_singleton] at this
            obtain rfl : k = m := by omega
            rw [List.getElem?_append_right (by omega), l2, Nat.sub_self] at hk
            simp at hk; subst hk
            exact ⟨u, by rw [List.getElem?_append_right (by omega), l1, Nat.sub_self]; rfl, e2⟩
    obtain ⟨vs, xss, l1, l2, c1, c2⟩ := build n0 (Nat.le_refl _)
    refine ⟨xss, vs, ⟨some ⟨b, off, spot⟩, c0, by rw [l1], by omega, hm, (fun h => by cases h), fun k x hk => ?_⟩, by omega, c2⟩
    have hc := c1 k x hk
    have hk0 : 0 < n0 := by have := (List.getElem?_eq_some_iff.1 hk).1; omega
    obtain rfl := spot_none (c1 0 _ (List.getElem?_eq_getElem (by omega)))
    exact ⟨b, off, rfl, cell_add hc⟩
end Go.Proofs.YtdjdagcgodpgdaaGreat
