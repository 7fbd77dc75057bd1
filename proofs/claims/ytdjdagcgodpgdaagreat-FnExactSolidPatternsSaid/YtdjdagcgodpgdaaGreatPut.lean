/-
  Inserting a permutation into an ascending list, as the reference does.
-/
import Derived.Test.YtdjdagcgodpgdaaGreatRowx
import Derived.Test.YtdjdagcgodpgdaaGreatSlib
import Derived.Test.YtdjdagcgodpgdaaGreatPerms
set_option linter.unusedVariables false
namespace Go.Proofs.YtdjdagcgodpgdaaGreat
open Go.RowKit

set_option maxHeartbeats 2000000 in
theorem l03Put_c {vg : Value} {vs : List Value} {g : List (List Int)} {u : Value} {p : List Int} {n : Nat} {w : World} {Q : Ending → World → Prop} (hr : RowAt w vg vs) (hvl : vs.length = g.length) (hvv0 : ∀ (k : Nat) (xs : List Int), g[k]? = some xs → ∃ u, vs[k]? = some u ∧ IntsAt w u xs)
    (hu : IntsAt w u p) (hg : g.length ≤ 1024) (hln : ∀ x ∈ g, x.length = n) (hpn : p.length = n)
    (hQ : ∀ v' w' (i : Nat), i ≤ g.length → (∀ (t : Nat) y, t < i → g[t]? = some y → Words.cmpL y p < 0) → (∀ y, g[i]? = some y → ¬ Words.cmpL y p < 0) → Own w' w.heap.size 36 v' ((vs.take i ++ [u]) ++ vs.drop i) → Below w.heap.size w w' → Q (.returned v') w') :
    Calls Tryz.prog 59 #[vg, u] w Q := by
  have H := Lib.hid hQ; clear hQ
  have hone := Lib.hid (RowsAt.one hvl hvv0)
  have rr' := Lib.hid (show RowsAt w vg g from ⟨vs, hr, hvl, hvv0⟩)
  have hux := Lib.hid hu
  obtain ⟨au, cu, rfl, _, _, _⟩ := hu.form
  obtain ⟨a6, ca, rfl, hl63, hlca, _⟩ := hr.form
  rw [hvl] at hr hl63 hlca ⊢
  have hrow := Lib.hid hr
  have hvl2 : vs.length ≤ g.length ∧ g.length ≤ vs.length := by omega
  have hlen := Lib.hid hln
  have hpn' := Lib.hid hpn
  clear hu hr hvv0 hvl hln hpn
  go_enter Tryz.func59, Tryz.ntmps59
  go_wp2_with fail
  go_loopg [5] g.length (fun gg u12 w3 => Hid (w3 = w) ∧ ∃ i : Nat, u12 = .int .i64 i ∧ Hid (∀ (t : Nat) y, t < i → g[t]? = some y → Words.cmpL y p < 0) ∧ i + gg ≤ g.length ∧ g.length ≤ i + gg)
  case atStart => exact ⟨Lib.hid rfl, 0, rfl, Lib.hid (fun t y h => by omega), by omega, by omega⟩
  case round =>
    obtain ⟨hw3, i, rfl, hlow, hi1, hi2⟩ := hrel
    obtain rfl := hw3.out
    clear hw3
    have hiW : i ≤ g.length := by omega
    by_cases hi : i < g.length
    · have hiI : (i : Int) < g.length := by omega
      obtain ⟨bi, fi, ui, y, rfl, hy, hcy, huy⟩ := rr'.out.cell (k := i) hi
      obtain ⟨ay, cy, rfl, _, _, _⟩ := huy.form
      have huy' := Lib.hid huy
      have hly : Hid (y.length = p.length) := Lib.hid (by rw [hlen.out y (List.mem_of_getElem? hy.out), hpn'.out])
      clear huy
      by_cases hc : Words.cmpL y p < 0
      · have hd : Hid (Words.less y p = true) := Lib.hid (by rw [Words.less_cmp hly.out]; exact decide_eq_true hc)
        have hlow2 : Hid (∀ (t : Nat) z, t < i + 1 → g[t]? = some z → Words.cmpL z p < 0) := Lib.hid (fun t z ht hz => by
          by_cases e : t < i
          · exact hlow.out t z e hz
          · obtain rfl : t = i := by omega
            rw [hy.out] at hz
            cases hz
            exact hc)
        clear hc
        go_wp2_with (go_at_call 45; refine l03Less_c huy'.out hux.out hly.out ?_; rw [hd.out])
        go_roundg (gk - 1)
        case measure => omega
        case rel => exact ⟨Lib.hid rfl, i + 1, by go_num, hlow2, by omega, by omega⟩
      · have hd : Hid (Words.less y p = false) := Lib.hid (by rw [Words.less_cmp hly.out]; exact decide_eq_false hc)
        have hhi : Hid (∀ z, g[i]? = some z → ¬ Words.cmpL z p < 0) := Lib.hid (fun z hz => by rw [hy.out] at hz; cases hz; exact hc)
        clear hc
        have hne6 : ¬ (ca = i) := by omega
        have b0 := below_alloc wr (.cells #[] 36)
        have hup := RowAt.below (RowAt.upto hrow.out (k := i) (by omega)) b0
        have htl0 := RowAt.tail hrow.out (k := i) (by omega)
        have htl : RowAt wr (.slice (some ⟨bi, fi + i, none⟩) (g.length - i) (ca - i)) (vs.drop i) := by
          rw [if_neg (show ¬ ca = i by omega), Option.map_some, addr_add] at htl0
          exact htl0
        clear htl0
        have hi63 : (i : Int) ≤ g.length := by omega
        have hica : i ≤ ca := by omega
        have hone1 : ∀ y ∈ vs.take i, y.oneCell' = true := fun y hy => hone.out y (List.mem_of_mem_take hy)
        have hone2 : ∀ y ∈ vs.drop i, y.oneCell' = true := fun y hy => hone.out y (List.mem_of_mem_drop hy)
        have hA1 : Hid (∀ us1 : List Value, us1 = ([] ++ vs.take i) → us1.length ≤ 2048) := Lib.hid (fun z h => by rw [h, List.nil_append, List.length_take]; omega)
        have hA3 : Hid ((vs.drop i).length ≤ 2048) := Lib.hid (by rw [List.length_drop]; omega)
        have hone3' : Hid (∀ y ∈ [Value.slice au p.length cu], y.oneCell' = true) := Lib.hid (fun y hy => by rw [List.mem_singleton] at hy; rw [hy]; rfl)
        have htl' := Lib.hid htl
        have hup' := Lib.hid hup
        have hone1' := Lib.hid hone1
        have hone2' := Lib.hid hone2
        clear htl hup hone1 hone2
        go_wp2_with (first
          | (go_at_call 45; refine l03Less_c huy'.out hux.out hly.out ?_; rw [hd.out])
          | (at_builtin; refine app_outer rfl (.tmp 21) (.tmp 24) rfl rfl (own_outer_empty wr) rfl hup'.out hone1'.out (by simp; omega) (by simp) ?_; intro v1 w1 o1 g1; change World.grownBy _ w1 (some wr.heap.size) at g1; obtain ⟨us1, hus1⟩ : ∃ us1, us1 = ([] ++ vs.take i) := ⟨_, rfl⟩; rw [← hus1] at o1; have hus1' := Lib.hid hus1; have hu1l : us1.length ≤ 2048 := hA1.out _ hus1; clear hus1; obtain ⟨n1, c1, rfl, l1, _, _⟩ := Own.form o1; have b1 : Below wr.heap.size wr w1 := b0.grown g1 (by simp) (by intro k hk; cases hk; exact Nat.le_refl _); have o1' := Own.below o1 (below_alloc w1 (.cells #[.slice au p.length cu] 36)); have b1' := b1.alloc b1.size (.cells #[.slice au p.length cu] 36); have hr1 := row_one w1 (.slice au p.length cu) 36)
          | (at_builtin; refine app_outer rfl (.tmp 26) (.tmp 28) rfl rfl o1' rfl hr1 hone3'.out (by show us1.length + 1 ≤ 1099511627776; omega) b1'.size ?_; intro v2 w2 o2 g2; obtain ⟨us2, hus2⟩ : ∃ us2, us2 = (us1 ++ [.slice au p.length cu]) := ⟨_, rfl⟩; rw [← hus2] at o2; have hus2' := Lib.hid hus2; have hu2l : us2.length ≤ 2049 := (by rw [hus2, List.length_append]; show us1.length + 1 ≤ 2049; omega); clear hus2; obtain ⟨n2, c2, rfl, l2, _, _⟩ := Own.form o2; have b2 : Below wr.heap.size wr w2 := b1'.grown g2 b1'.size (fun b hb => (Own.lt o1' hb).1); have htl2 := RowAt.below htl'.out b2)
          | (at_builtin; refine app_outer rfl (.tmp 30) (.tmp 33) rfl rfl o2 rfl htl2 hone2'.out (by have := hA3.out; omega) b2.size ?_; intro v3 w3 o3 g3))
        have b3 : Below wr.heap.size wr w3 := b2.grown g3 b2.size (fun b hb => (Own.lt o2 hb).1)
        rw [hus2'.out, hus1'.out, List.nil_append] at o3
        have h3 := Lib.hid (H.out v3 w3 i hiW hlow.out hhi.out o3 b3)
        obtain ⟨n3, c3', rfl, _, _, _⟩ := Own.form o3
        go_wp2_with fail
        exact h3.out
    · have hhi : Hid (∀ z, g[i]? = some z → ¬ Words.cmpL z p < 0) := Lib.hid (fun z hz => by rw [List.getElem?_eq_none (by omega)] at hz; cases hz)
      obtain rfl : i = g.length := by omega
      by_cases hci : ca = g.length
      · have hci' := hci
        subst hci
        have b0 := below_alloc wr (.cells #[] 36)
        have hup := RowAt.below (RowAt.upto hrow.out (k := g.length) (by omega)) b0
        have htl0 := RowAt.tail hrow.out (k := g.length) (by omega)
        have htl : RowAt wr (.slice a6 0 0) (vs.drop g.length) := by
          rw [if_pos rfl, Nat.sub_self] at htl0; exact htl0
        clear htl0
        have hi63 : (g.length : Int) ≤ g.length := by omega
        have hica : g.length ≤ g.length := by omega
        have hone1 : ∀ y ∈ vs.take g.length, y.oneCell' = true := fun y hy => hone.out y (List.mem_of_mem_take hy)
        have hone2 : ∀ y ∈ vs.drop g.length, y.oneCell' = true := fun y hy => hone.out y (List.mem_of_mem_drop hy)
        have hA1 : Hid (∀ us1 : List Value, us1 = ([] ++ vs.take g.length) → us1.length ≤ 2048) := Lib.hid (fun z h => by rw [h, List.nil_append, List.length_take]; omega)
        have hA3 : Hid ((vs.drop g.length).length ≤ 2048) := Lib.hid (by rw [List.length_drop]; omega)
        have hone3' : Hid (∀ y ∈ [Value.slice au p.length cu], y.oneCell' = true) := Lib.hid (fun y hy => by rw [List.mem_singleton] at hy; rw [hy]; rfl)
        have htl' := Lib.hid htl
        have hup' := Lib.hid hup
        have hone1' := Lib.hid hone1
        have hone2' := Lib.hid hone2
        clear htl hup hone1 hone2
        go_wp2_with (first
          | (at_builtin; refine app_outer rfl (.tmp 21) (.tmp 24) rfl rfl (own_outer_empty wr) rfl hup'.out hone1'.out (by simp; omega) (by simp) ?_; intro v1 w1 o1 g1; change World.grownBy _ w1 (some wr.heap.size) at g1; obtain ⟨us1, hus1⟩ : ∃ us1, us1 = ([] ++ vs.take g.length) := ⟨_, rfl⟩; rw [← hus1] at o1; have hus1' := Lib.hid hus1; have hu1l : us1.length ≤ 2048 := hA1.out _ hus1; clear hus1; obtain ⟨n1, c1, rfl, l1, _, _⟩ := Own.form o1; have b1 : Below wr.heap.size wr w1 := b0.grown g1 (by simp) (by intro k hk; cases hk; exact Nat.le_refl _); have o1' := Own.below o1 (below_alloc w1 (.cells #[.slice au p.length cu] 36)); have b1' := b1.alloc b1.size (.cells #[.slice au p.length cu] 36); have hr1 := row_one w1 (.slice au p.length cu) 36)
          | (at_builtin; refine app_outer rfl (.tmp 26) (.tmp 28) rfl rfl o1' rfl hr1 hone3'.out (by show us1.length + 1 ≤ 1099511627776; omega) b1'.size ?_; intro v2 w2 o2 g2; obtain ⟨us2, hus2⟩ : ∃ us2, us2 = (us1 ++ [.slice au p.length cu]) := ⟨_, rfl⟩; rw [← hus2] at o2; have hus2' := Lib.hid hus2; have hu2l : us2.length ≤ 2049 := (by rw [hus2, List.length_append]; show us1.length + 1 ≤ 2049; omega); clear hus2; obtain ⟨n2, c2, rfl, l2, _, _⟩ := Own.form o2; have b2 : Below wr.heap.size wr w2 := b1'.grown g2 b1'.size (fun b hb => (Own.lt o1' hb).1); have htl2 := RowAt.below htl'.out b2)
          | (at_builtin; refine app_outer rfl (.tmp 30) (.tmp 33) rfl rfl o2 rfl htl2 hone2'.out (by have := hA3.out; omega) b2.size ?_; intro v3 w3 o3 g3))
        have b3 : Below wr.heap.size wr w3 := b2.grown g3 b2.size (fun b hb => (Own.lt o2 hb).1)
        rw [hus2'.out, hus1'.out, List.nil_append] at o3
        have h3 := Lib.hid (H.out v3 w3 g.length hiW hlow.out hhi.out o3 b3)
        obtain ⟨n3, c3', rfl, _, _, _⟩ := Own.form o3
        go_wp2_with fail
        exact h3.out
      · have hne6 := hci
        have b0 := below_alloc wr (.cells #[] 36)
        have hup := RowAt.below (RowAt.upto hrow.out (k := g.length) (by omega)) b0
        have htl0 := RowAt.tail hrow.out (k := g.length) (by omega)
        have htl : RowAt wr (.slice (Option.map (fun x => x.add g.length) a6) 0 (ca - g.length)) (vs.drop g.length) := by
          rw [if_neg hci, Nat.sub_self] at htl0; exact htl0
        clear htl0
        have hi63 : (g.length : Int) ≤ g.length := by omega
        have hica : g.length ≤ ca := by omega
        have hone1 : ∀ y ∈ vs.take g.length, y.oneCell' = true := fun y hy => hone.out y (List.mem_of_mem_take hy)
        have hone2 : ∀ y ∈ vs.drop g.length, y.oneCell' = true := fun y hy => hone.out y (List.mem_of_mem_drop hy)
        have hA1 : Hid (∀ us1 : List Value, us1 = ([] ++ vs.take g.length) → us1.length ≤ 2048) := Lib.hid (fun z h => by rw [h, List.nil_append, List.length_take]; omega)
        have hA3 : Hid ((vs.drop g.length).length ≤ 2048) := Lib.hid (by rw [List.length_drop]; omega)
        have hone3' : Hid (∀ y ∈ [Value.slice au p.length cu], y.oneCell' = true) := Lib.hid (fun y hy => by rw [List.mem_singleton] at hy; rw [hy]; rfl)
        have htl' := Lib.hid htl
        have hup' := Lib.hid hup
        have hone1' := Lib.hid hone1
        have hone2' := Lib.hid hone2
        clear htl hup hone1 hone2
        go_wp2_with (first
          | (at_builtin; refine app_outer rfl (.tmp 21) (.tmp 24) rfl rfl (own_outer_empty wr) rfl hup'.out hone1'.out (by simp; omega) (by simp) ?_; intro v1 w1 o1 g1; change World.grownBy _ w1 (some wr.heap.size) at g1; obtain ⟨us1, hus1⟩ : ∃ us1, us1 = ([] ++ vs.take g.length) := ⟨_, rfl⟩; rw [← hus1] at o1; have hus1' := Lib.hid hus1; have hu1l : us1.length ≤ 2048 := hA1.out _ hus1; clear hus1; obtain ⟨n1, c1, rfl, l1, _, _⟩ := Own.form o1; have b1 : Below wr.heap.size wr w1 := b0.grown g1 (by simp) (by intro k hk; cases hk; exact Nat.le_refl _); have o1' := Own.below o1 (below_alloc w1 (.cells #[.slice au p.length cu] 36)); have b1' := b1.alloc b1.size (.cells #[.slice au p.length cu] 36); have hr1 := row_one w1 (.slice au p.length cu) 36)
          | (at_builtin; refine app_outer rfl (.tmp 26) (.tmp 28) rfl rfl o1' rfl hr1 hone3'.out (by show us1.length + 1 ≤ 1099511627776; omega) b1'.size ?_; intro v2 w2 o2 g2; obtain ⟨us2, hus2⟩ : ∃ us2, us2 = (us1 ++ [.slice au p.length cu]) := ⟨_, rfl⟩; rw [← hus2] at o2; have hus2' := Lib.hid hus2; have hu2l : us2.length ≤ 2049 := (by rw [hus2, List.length_append]; show us1.length + 1 ≤ 2049; omega); clear hus2; obtain ⟨n2, c2, rfl, l2, _, _⟩ := Own.form o2; have b2 : Below wr.heap.size wr w2 := b1'.grown g2 b1'.size (fun b hb => (Own.lt o1' hb).1); have htl2 := RowAt.below htl'.out b2)
          | (at_builtin; refine app_outer rfl (.tmp 30) (.tmp 33) rfl rfl o2 rfl htl2 hone2'.out (by have := hA3.out; omega) b2.size ?_; intro v3 w3 o3 g3))
        have b3 : Below wr.heap.size wr w3 := b2.grown g3 b2.size (fun b hb => (Own.lt o2 hb).1)
        rw [hus2'.out, hus1'.out, List.nil_append] at o3
        have h3 := Lib.hid (H.out v3 w3 g.length hiW hlow.out hhi.out o3 b3)
        obtain ⟨n3, c3', rfl, _, _, _⟩ := Own.form o3
        go_wp2_with fail
        exact h3.out
end Go.Proofs.YtdjdagcgodpgdaaGreat
