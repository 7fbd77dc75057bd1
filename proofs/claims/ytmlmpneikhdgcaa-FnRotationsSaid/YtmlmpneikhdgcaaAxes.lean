/-
  The axes of a word, its root.
-/
import Derived.Test.YtmlmpneikhdgcaaBrace
import Derived.Test.YtmlmpneikhdgcaaLaw
set_option linter.unusedVariables false
namespace Go.Proofs.Ytmlmpneikhdgcaa
open Go.RowKit

/-- The axis s keeps the letters up to m. -/
def Words.axTo (xs : List Int) (s : Nat) : Nat → Bool
  | 0 => true
  | i + 1 => Words.axTo xs s i && decide (xs[i]? = xs[(s + xs.length - i) % xs.length]?)
def Words.axRow (xs : List Int) (j : Nat) : List Int := ((List.range j).filter fun s => Words.axTo xs s xs.length).map fun (s : Nat) => (s : Int)
def Words.axW (xs : List Int) : List Int := if Words.okW xs = true then Words.axRow xs xs.length else []
theorem Words.axRow_step (xs : List Int) (j : Nat) : Words.axRow xs (j + 1) = Words.axRow xs j ++ (if Words.axTo xs j xs.length = true then [(j : Int)] else []) := by
  unfold Words.axRow
  rw [List.range_succ, List.filter_append, List.map_append]
  by_cases h : Words.axTo xs j xs.length = true <;> simp [h]
theorem Words.axRow_len (xs : List Int) (j : Nat) : (Words.axRow xs j).length ≤ j := by
  unfold Words.axRow
  have h := List.length_filter_le (fun s => Words.axTo xs s xs.length) (List.range j)
  rw [List.length_range] at h
  rw [List.length_map]
  exact h
theorem Words.axW_len (xs : List Int) : (Words.axW xs).length ≤ 10 := by
  unfold Words.axW
  split
  · rename_i h
    have h1 := Words.axRow_len xs xs.length
    have h2 := Words.okW_len h
    omega
  · simp
theorem Words.perFrom_bd (xs : List Int) : ∀ g k, 1 ≤ k → k + g ≤ xs.length → 1 ≤ Words.perFrom xs g k ∧ Words.perFrom xs g k ≤ xs.length
  | 0, k, h1, h2 => by simp only [Words.perFrom]; omega
  | g + 1, k, h1, h2 => by
    have ih := Words.perFrom_bd xs g (k + 1) (by omega) (by omega)
    simp only [Words.perFrom]
    split <;> omega
theorem Words.period_bd {xs : List Int} (h : Words.okW xs = true) : 1 ≤ Words.period xs ∧ Words.period xs ≤ xs.length := by
  have := Words.okW_len h
  exact Words.perFrom_bd xs (xs.length - 1) 1 (by omega) (by omega)
def Words.rootW (xs : List Int) : List Int := if Words.okW xs = true then xs.take (Words.period xs) else []
def Words.rootN (xs : List Int) : Int := if Words.okW xs = true then ((xs.length / Words.period xs : Nat) : Int) else 0
theorem Words.rootW_len (xs : List Int) : (Words.rootW xs).length ≤ 10 := by
  unfold Words.rootW
  split
  · rename_i h
    have := Words.okW_len h
    rw [List.length_take]
    omega
  · simp

set_option maxHeartbeats 1600000 in
theorem AxesOf_i {va : Value} {xs : List Int} {w : World} {Q : Ending → World → Prop} (ha : IntsAt w va xs) (hn : xs.length ≤ 1048576)
    (hQ : ∀ v w', OwnInts w' w.heap.size v (Words.axW xs) → Below w.heap.size w w' → Q (.returned v) w') :
    Calls Try.prog 34 #[va] w Q := by
  have H := Lib.hid hQ; clear hQ
  obtain ⟨aa, ca, rfl, la, lca, cca⟩ := ha.form
  have ha2 := ha.below (below_alloc w (.cells #[] 3))
  go_enter Try.func34, Try.ntmps34
  go_wp2_with fail
  refine ColoringOk_i ha2 ?_
  cases hok : Words.okW xs with
  | false =>
    have hr : Hid (Words.axW xs = []) := Lib.hid (by unfold Words.axW; rw [if_neg (by rw [hok]; simp)])
    go_wp2_with fail
    exact H.out _ _ (by rw [hr.out]; exact own_empty w) (below_alloc w _)
  | true =>
    have hl := Words.okW_len hok
    obtain ⟨hl1, hl2⟩ := hl
    have hr : Hid (Words.axW xs = Words.axRow xs xs.length) := Lib.hid (by unfold Words.axW; rw [if_pos hok])
    clear hok
    go_wp2_with fail
    go_loopg [3, 17] xs.length (fun k o s wr => ∃ j : Nat, s = .int .i64 j ∧ OwnInts wr w.heap.size o (Words.axRow xs j) ∧ Below w.heap.size w wr ∧ j + k ≤ xs.length ∧ xs.length ≤ j + k)
    case atStart => exact ⟨0, rfl, own_empty w, below_alloc w _, by omega, by omega⟩
    case round =>
      obtain ⟨j, rfl, ho, hbw, hk1, hk2⟩ := hrel
      by_cases hj : j < xs.length
      · have i1 : (j : Int) < xs.length := by omega
        have es := Lib.hid (Words.axRow_step xs j)
        have el := Lib.hid (Words.axRow_len xs j)
        obtain ⟨wo, hwo⟩ : ∃ wo : World, wo = wr := ⟨_, rfl⟩
        subst hwo
        obtain ⟨gi, hgi⟩ : ∃ g' : Nat, g' = gk := ⟨_, rfl⟩
        subst hgi
        go_wp2_with fail
        go_loopg [6, 22] xs.length (fun k f s wr => Hid (wr = wo) ∧ ∃ i : Nat, s = .int .i64 i ∧ f = .bool (Words.axTo xs j i) ∧ i + k ≤ xs.length ∧ xs.length ≤ i + k)
        case atStart => exact ⟨Lib.hid rfl, 0, rfl, rfl, by omega, by omega⟩
        case round =>
          obtain ⟨hw, i, rfl, rfl, hm1, hm2⟩ := hrel
          obtain rfl := hw.out
          clear hw
          by_cases hi : i < xs.length
          · have i2 : (i : Int) < xs.length := by omega
            obtain ⟨r, hr⟩ : ∃ r : Nat, r = (j + xs.length - i) % xs.length := ⟨_, rfl⟩
            have hrl : r < xs.length := by rw [hr]; exact Nat.mod_lt _ (by omega)
            have hrI : ((j : Int) - i + xs.length) % (xs.length : Int) = r := by rw [hr, Int.natCast_emod, show ((j + xs.length - i : Nat) : Int) = (j : Int) - i + xs.length from by omega]
            have hr' := Lib.hid hr
            clear hr
            have hp0 : 0 ≤ (j : Int) - i + xs.length := by omega
            have i3 : (r : Int) < xs.length := by omega
            obtain ⟨ba, oa, x, rfl, hx, hcx0⟩ := ha.cell hi
            obtain ⟨ba', oa', y, e, hy, hcy0⟩ := ha.cell hrl
            cases e
            have hcx := below_cells hbw _ _ hcx0
            have hcy := below_cells hbw _ _ hcy0
            have est : Hid (Words.axTo xs j (i + 1) = (Words.axTo xs j i && decide (x = y))) := Lib.hid (by
              simp only [Words.axTo]; rw [← hr'.out, hx.out, hy.out]; simp)
            cases hf : Words.axTo xs j i with
            | false =>
              have e2 : Hid (Words.axTo xs j (i + 1) = false) := Lib.hid (by rw [est.out, hf]; rfl)
              clear hf
              go_wp2_with fail
              go_roundg (gk - 1)
              case measure => omega
              case rel => exact ⟨Lib.hid rfl, i + 1, by go_num, by rw [e2.out], by omega, by omega⟩
            | true =>
              by_cases hxy : x = y
              · have e2 : Hid (Words.axTo xs j (i + 1) = true) := Lib.hid (by rw [est.out, hf, decide_eq_true hxy]; rfl)
                have ht : (x == y) = true := by rw [hxy]; simp
                clear hf hxy
                go_wp2_with fail
                go_roundg (gk - 1)
                case measure => omega
                case rel => exact ⟨Lib.hid rfl, i + 1, by go_num, by rw [e2.out], by omega, by omega⟩
              · have e2 : Hid (Words.axTo xs j (i + 1) = false) := Lib.hid (by rw [est.out, hf, decide_eq_false hxy]; rfl)
                have ht : (x == y) = false := beq_eq_false_iff_ne.2 hxy
                clear hf hxy
                go_wp2_with fail
                go_roundg (gk - 1)
                case measure => omega
                case rel => exact ⟨Lib.hid rfl, i + 1, by go_num, by rw [e2.out], by omega, by omega⟩
          · obtain rfl : i = xs.length := by omega
            cases hf : Words.axTo xs j xs.length with
            | false =>
              have e2 : Hid (Words.axRow xs (j + 1) = Words.axRow xs j) := Lib.hid (by rw [es.out, hf]; simp)
              clear hf
              go_wp2_with fail
              go_roundg (gi - 1)
              case measure => omega
              case rel => exact ⟨j + 1, by go_num, by rw [e2.out]; exact ho, hbw, by omega, by omega⟩
            | true =>
              have e2 : Hid (Words.axRow xs (j + 1) = Words.axRow xs j ++ [(j : Int)]) := Lib.hid (by rw [es.out, hf]; simp)
              have el2 := el.out
              clear hf
              go_wp2_with (at_builtin; refine app_int rfl (.tmp 44) (.tmp 46) rfl rfl (OwnInts.below ho (below_alloc wr _)) rfl (cell_new _ _ _) (by omega) (by have := hbw.size; simp; omega) ?_; intro v2 w2 o2 g2)
              go_roundg (gi - 1)
              case measure => omega
              case rel => exact ⟨j + 1, by go_num, by rw [e2.out]; exact o2, (hbw.alloc hbw.size _).grown g2 (by have := hbw.size; simp; omega) (fun b hb => (OwnInts.lt ho hb).1), by omega, by omega⟩
      · go_wp2_with fail
        refine H.out _ _ ?_ hbw
        rw [hr.out, show xs.length = j from by omega]
        exact ho
set_option maxHeartbeats 800000 in
theorem RootOf_i {va : Value} {xs : List Int} {w : World} {Q : Ending → World → Prop} (ha : IntsAt w va xs) (hn : xs.length ≤ 1048576)
    (hQ : ∀ v w', OwnInts w' w.heap.size v (Words.rootW xs) → Below w.heap.size w w' → Q (.returned (.tuple #[v, .int .i64 (Words.rootN xs), .bool (Words.okW xs)])) w') :
    Calls Try.prog 39 #[va] w Q := by
  have H := Lib.hid hQ; clear hQ
  have ha0 := Lib.hid ha
  obtain ⟨aa, ca, rfl, la, lca, cca⟩ := ha.form
  go_enter Try.func39, Try.ntmps39
  go_wp2_with fail
  refine ColoringOk_i ha0.out ?_
  by_cases hok : Words.okW xs = true
  · obtain ⟨hp1, hp2⟩ := Words.period_bd hok
    have hl := (Words.okW_len hok).2
    have hpi : Hid (Words.perI xs = Words.period xs) := Lib.hid (by unfold Words.perI; rw [if_pos hok])
    have hrw : Hid (Words.rootW xs = xs.take (Words.period xs)) := Lib.hid (by unfold Words.rootW; rw [if_pos hok])
    have hrn : Hid (Words.rootN xs = ((xs.length / Words.period xs : Nat) : Int)) := Lib.hid (by unfold Words.rootN; rw [if_pos hok])
    have hok' := Lib.hid hok
    rw [hok]
    clear hok
    go_wp2_with fail
    refine PeriodOf_i ha0.out hn ?_
    intro w1 b1
    rw [hpi.out]
    obtain ⟨p, hp⟩ : ∃ p, p = Words.period xs := ⟨_, rfl⟩
    rw [← hp] at hp1 hp2 hrw hrn
    rw [← hp]
    clear hp hpi
    have hu : IntsAt w1.drew _ _ := IntsAt.drawn (IntsAt.upto (ha0.out.below b1) hp2) (Drawn.one w1 1)
    have hkc : p ≤ ca := by omega
    have hp3 : 0 < (p : Int) := by omega
    have hp4 : (p : Int) ≤ xs.length := by omega
    have hp5 : ¬ (p = 0) := by omega
    have hd1 : 0 ≤ (xs.length : Int) / p := Int.ediv_nonneg (by omega) (by omega)
    have hd2 : (xs.length : Int) / p ≤ xs.length := Int.ediv_le_self _ (by omega)
    have hwr : Hid (IntKind.i64.wrap ((xs.length : Int) / p) = (xs.length : Int) / p) := Lib.hid (IntWalk.i64_in _ (by omega))
    go_wp2_with fail
    go_region_law (first
      | (go_simp; go_at_call 56; refine Clone_c hu (by simp; omega) ?_; intro v2 w2 o2 b2))
    have h2 := H.out v2 w2 (by rw [hrw.out]; exact OwnInts.mono o2 b1.size) (b1.trans ((Drawn.below (Drawn.one w1 1) _).trans (Below.mono b2 b1.size)))
    rw [hrn.out, hok'.out, Int.natCast_ediv] at h2
    have h3 := Lib.hid h2
    clear h2
    go_wp2_with fail
    go_ret3
    first | exact h3.out | (rw [hwr.out]; exact h3.out)
  · have hrw : Hid (Words.rootW xs = []) := Lib.hid (by unfold Words.rootW; rw [if_neg hok])
    have hrn : Hid (Words.rootN xs = 0) := Lib.hid (by unfold Words.rootN; rw [if_neg hok])
    have hok' : Words.okW xs = false := by simpa using hok
    have h2 := H.out (.slice none 0 0) w (by rw [hrw.out]; exact Own.nil _ _ _) (Below.refl _ _)
    rw [hrn.out, hok'] at h2
    have h3 := Lib.hid h2
    rw [hok']
    clear h2 hok hok'
    go_wp2_with fail
    go_ret3
    first | exact h3.out | (rw [hwr.out]; exact h3.out)
end Go.Proofs.Ytmlmpneikhdgcaa
