/-
  The word of all words, as the reference makes it.
-/
import Derived.Test.YtmlmpneikhdgcaaWallI
import Derived.Test.YtmlmpneikhdgcaaEnumS
import Derived.Test.YtmlmpneikhdgcaaBef
import Derived.Test.YtmlmpneikhdgcaaGrow1
set_option linter.unusedVariables false
namespace Go.Proofs.Ytmlmpneikhdgcaa
open Go.RowKit

theorem row_tail {w : World} {ao : Option Addr} {n k cap : Nat} {xs : List Value} (h : RowAt w (.slice (if cap = k then ao else Option.map (fun x => x.add k) ao) (n - k) (cap - k)) xs) : RowAt w (.slice (if cap = k then ao else Option.map (fun x => x.add k) ao) (n - k) (cap - k)) xs := h
theorem addr_add (b f i : Nat) : Addr.add ⟨b, f, none⟩ i = ⟨b, f + i, none⟩ := by
  unfold Addr.add
  by_cases h : i = 0
  · rw [if_pos h, h]; rfl
  · rw [if_neg h]
theorem RowsAt.one {w : World} {vs : List Value} {xss : List (List Int)} (hl : vs.length = xss.length) (h : ∀ (k : Nat) (xs : List Int), xss[k]? = some xs → ∃ u, vs[k]? = some u ∧ IntsAt w u xs) : ∀ y ∈ vs, y.oneCell' = true := fun y hy => by
  obtain ⟨k, hk⟩ := List.getElem?_of_mem hy
  have hkl := (List.getElem?_eq_some_iff.1 hk).1
  obtain ⟨u, hu, hi⟩ := h k _ (List.getElem?_eq_getElem (show k < xss.length by omega))
  rw [hk] at hu
  obtain rfl := Option.some.inj hu
  obtain ⟨_, _, rfl, _⟩ := hi.form
  rfl
set_option maxHeartbeats 4000000 in
theorem WordOfAll_s {n k : Int} {w : World} {Q : Ending → World → Prop}
    (hQ : ∀ v w', OwnInts w' w.heap.size v (Words.wallW n k) → Below w.heap.size w w' → Q (.returned (.tuple #[v, .bool (Words.smallN n k)])) w') :
    Calls Try.prog 30 #[.int .i64 n, .int .i64 k] w Q := by
  have H := Lib.hid hQ; clear hQ
  by_cases hs0 : Words.smallN n k = true
  rotate_left
  · have hf : Hid (Words.smallN n k = false) := Lib.hid (by simpa using hs0)
    have h2 := H.out (.slice none 0 0) w (by unfold Words.wallW; rw [if_neg hs0]; exact Own.nil _ _ _) (Below.refl _ _)
    rw [hf.out] at h2
    have h3 := Lib.hid h2
    clear hs0 h2
    go_enter Try.func30, Try.ntmps30
    go_wp2_with fail
    refine l08Ok_c ?_
    rw [hf.out]
    go_wp2_with fail
    exact h3.out
  have hs := Lib.hid hs0
  have hs2 := hs0
  unfold Words.smallN at hs2
  simp only [Bool.and_eq_true, decide_eq_true_eq] at hs2
  obtain ⟨⟨hn1, hn2⟩, ⟨hk1, hk4⟩, hpw⟩ := hs2
  obtain ⟨n0, rfl⟩ : ∃ n0 : Nat, n = n0 := ⟨n.toNat, by omega⟩
  have Hok : Hid (∀ v w', OwnInts w' w.heap.size v (Words.isort (Words.allTo k n0 n0)).flatten → Below w.heap.size w w' → Q (.returned (.tuple #[v, .bool true])) w') := Lib.hid fun v w' ho hb => by
    have h2 := H.out v w' (by unfold Words.wallW; rw [if_pos hs.out, Int.toNat_natCast]; exact ho) hb
    rwa [hs.out] at h2
  clear hs0 hpw
  go_enter Try.func30, Try.ntmps30
  go_wp2_with fail
  refine l08Ok_c ?_
  rw [hs.out]
  go_wp2_with fail
  have hr0 : RowsAt (w.alloc (.cells #[] 22)) (.slice (some ⟨w.heap.size, 0, none⟩) 0 0) [] := ⟨[], Own.row (own_outer_empty w), rfl, fun k xs h => by simp at h⟩
  have bb0 := below_alloc w (.cells #[] 22)
  go_loopg [6, 7] n0 (fun gg u6 u7 wr => ∃ (j : Nat), u7 = .int .i64 ((j : Int) + 1) ∧ RowsAt wr u6 (Words.isort (Words.allTo k n0 j)) ∧ Below w.heap.size w wr ∧ j + gg ≤ n0 ∧ n0 ≤ j + gg)
  case atStart => exact ⟨0, rfl, hr0, bb0, by omega, by omega⟩
  case round =>
    obtain ⟨j, rfl, rj, bj, hm1, hm2⟩ := hrel
    obtain ⟨gk1, hgk1⟩ : ∃ g, g = gk := ⟨_, rfl⟩
    obtain ⟨a0, c0, rfl, _, _, _⟩ := rj.form
    have hal := Words.allTo_len k n0 j
    by_cases hj : j < n0
    · have hjI : (j : Int) + 1 ≤ n0 := by omega
      have hdv : ¬ ((j : Int) + 1 = 0) := by omega
      by_cases hz : (n0 : Int) % ((j : Int) + 1) = 0
      · have hz' : ((n0 : Int) % ((j : Int) + 1) != 0) = false := by rw [hz]; rfl
        have hst : Hid (Words.allTo k n0 (j + 1) = Words.allTo k n0 j ++ Words.enumO Words.lynB ((j : Int) + 1) k) := Lib.hid (by simp only [Words.allTo]; rw [if_pos hz])
        have hel := Words.enumO_le Words.lynB ((j : Int) + 1) k
        clear hz
        go_wp2_with fail
        refine LyndonWords_s ?_
        intro v2 wl o2 b2
        obtain ⟨l, hl⟩ : ∃ l, l = Words.enumO Words.lynB ((j : Int) + 1) k := ⟨_, rfl⟩
        rw [← hl] at o2 hst hel
        clear hl
        have hlr := Lib.hid o2.at
        obtain ⟨al, cl, rfl, _, _, _⟩ := o2.form
        have rj2 : RowsAt wl (.slice a0 (Words.isort (Words.allTo k n0 j)).length c0) (Words.isort (Words.allTo k n0 j ++ l.take 0)) := by rw [List.take_zero, List.append_nil]; exact rj.below b2
        have bj2 := bj.trans (b2.mono bj.size)
        clear o2
        go_wp2_with fail
        go_loopg [6, 39] l.length (fun gg u6 u39 wr2 => ∃ (r : Nat), u39 = .int .i64 r ∧ RowsAt wr2 u6 (Words.isort (Words.allTo k n0 j ++ l.take r)) ∧ Below wl.heap.size wl wr2 ∧ r + gg ≤ l.length ∧ l.length ≤ r + gg)
        case atStart => exact ⟨0, rfl, rj2, Below.refl _ _, by omega, by omega⟩
        case round =>
          obtain ⟨r, rfl, rr, bwl, hr1, hr2⟩ := hrel
          obtain ⟨gk2, hgk2⟩ : ∃ g, g = gk := ⟨_, rfl⟩
          obtain ⟨W, hW⟩ : ∃ W, W = Words.isort (Words.allTo k n0 j ++ l.take r) := ⟨_, rfl⟩
          have hWl : W.length ≤ 20480 := by
            rw [hW, Words.isort_len, List.length_append, List.length_take]
            omega
          rw [← hW] at rr
          obtain ⟨a6, c6, rfl, hW63, _, _⟩ := rr.form
          have rr' := Lib.hid rr
          by_cases hr : r < l.length
          · have hrI : (r : Int) < l.length := by omega
            obtain ⟨bl, fl, u, x, rfl, hx, hcx, hux0⟩ := (hlr.out.below bwl).cell (k := r) hr
            obtain ⟨au, cu, rfl, _, _, _⟩ := hux0.form
            have hux := Lib.hid hux0
            have hst2 : Hid (Words.isort (Words.allTo k n0 j ++ l.take (r + 1)) = Words.ins W x) := Lib.hid (by rw [hW]; exact Words.isort_take _ hx.out)
            obtain ⟨vs, hrow0, hvl, hvv0⟩ := rr
            have hone := Lib.hid (RowsAt.one hvl hvv0)
            have hrow := Lib.hid hrow0
            have hvv := Lib.hid hvv0
            have hvl2 : vs.length ≤ W.length ∧ W.length ≤ vs.length := by omega
            clear hrow0 hvv0 hux0 hW hvl
            go_wp2_with fail
            go_loopg [12] W.length (fun gg u12 w3 => Hid (w3 = wr) ∧ ∃ i : Nat, u12 = .int .i64 i ∧ Hid (∀ (t : Nat) y, t < i → W[t]? = some y → Words.cmpL y x < 0) ∧ i + gg ≤ W.length ∧ W.length ≤ i + gg)
            case atStart => exact ⟨Lib.hid rfl, 0, rfl, Lib.hid (fun t y h => by omega), by omega, by omega⟩
            case round =>
              obtain ⟨hw3, i, rfl, hlow, hi1, hi2⟩ := hrel
              obtain rfl := hw3.out
              clear hw3
              have hiW : i ≤ W.length := by omega
              by_cases hi : i < W.length
              · have hiI : (i : Int) < W.length := by omega
                obtain ⟨bi, fi, ui, y, rfl, hy, hcy, huy⟩ := rr'.out.cell (k := i) hi
                obtain ⟨ay, cy, rfl, _, _, _⟩ := huy.form
                have huy' := Lib.hid huy
                clear huy
                by_cases hc : Words.cmpL y x < 0
                · have hd : Hid (decide (Words.cmpL y x < 0) = true) := Lib.hid (decide_eq_true hc)
                  have hlow2 : Hid (∀ (t : Nat) z, t < i + 1 → W[t]? = some z → Words.cmpL z x < 0) := Lib.hid (fun t z ht hz => by
                    by_cases e : t < i
                    · exact hlow.out t z e hz
                    · obtain rfl : t = i := by omega
                      rw [hy.out] at hz
                      cases hz
                      exact hc)
                  clear hc
                  go_wp2_with (go_at_call 73; refine l08Before_c huy'.out hux.out ?_; rw [hd.out])
                  go_roundg (gk - 1)
                  case measure => omega
                  case rel => exact ⟨Lib.hid rfl, i + 1, by go_num, hlow2, by omega, by omega⟩
                · have hd : Hid (decide (Words.cmpL y x < 0) = false) := Lib.hid (decide_eq_false hc)
                  have hhi : Hid (∀ z, W[i]? = some z → ¬ Words.cmpL z x < 0) := Lib.hid (fun z hz => by rw [hy.out] at hz; cases hz; exact hc)
                  clear hc
                  have hcall : Hid True := Lib.hid trivial
                  have hins : Hid (Words.ins W x = W.take i ++ x :: W.drop i) := Lib.hid (Words.ins_at hiW hlow.out hhi.out)
                  have hne6 : ¬ (c6 = i) := by omega
                  have b0 := below_alloc wr (.cells #[] 22)
                  have hup := RowAt.below (RowAt.upto hrow.out (k := i) (by omega)) b0
                  have htl0 := RowAt.tail hrow.out (k := i) (by omega)
                  have htl : RowAt wr (.slice (some ⟨bi, fi + i, none⟩) (W.length - i) (c6 - i)) (vs.drop i) := by
                    rw [if_neg (show ¬ c6 = i by omega), Option.map_some, addr_add] at htl0
                    exact htl0
                  clear htl0
                  have hi63 : (i : Int) ≤ W.length := by omega
                  have hica : i ≤ c6 := by omega
                  have hone1 : ∀ y ∈ vs.take i, y.oneCell' = true := fun y hy => hone.out y (List.mem_of_mem_take hy)
                  have hone2 : ∀ y ∈ vs.drop i, y.oneCell' = true := fun y hy => hone.out y (List.mem_of_mem_drop hy)
                  have hvs : vs.length ≤ 20480 := by omega
                  have hA1 : Hid (∀ us1 : List Value, us1 = ([] ++ vs.take i) → us1.length ≤ 20480) := Lib.hid (fun z h => by rw [h, List.nil_append, List.length_take]; omega)
                  have hA3 : Hid ((vs.drop i).length ≤ 20480) := Lib.hid (by rw [List.length_drop]; omega)
                  have hone3' : Hid (∀ y ∈ [Value.slice au x.length cu], y.oneCell' = true) := Lib.hid (fun y hy => by rw [List.mem_singleton] at hy; rw [hy]; rfl)
                  have htl' := Lib.hid htl
                  have hup' := Lib.hid hup
                  have hone1' := Lib.hid hone1
                  have hone2' := Lib.hid hone2
                  clear htl hup hone1 hone2
                  go_wp2_with (first
                    | (go_at_call 73; refine l08Before_c huy'.out hux.out ?_; rw [hd.out])
                    | (at_builtin; (refine app_outer rfl (.tmp 57) (.tmp 60) rfl rfl (own_outer_empty wr) rfl hup'.out hone1'.out (by simp; omega) (by simp) ?_); intro v1 w1 o1 g1; change World.grownBy _ w1 (some wr.heap.size) at g1; obtain ⟨us1, hus1⟩ : ∃ us1, us1 = ([] ++ vs.take i) := ⟨_, rfl⟩; rw [← hus1] at o1; have hus1' := Lib.hid hus1; have hu1l : us1.length ≤ 20480 := hA1.out _ hus1; clear hus1; obtain ⟨n1, c1, rfl, l1, _, _⟩ := Own.form o1; have b1 : Below wr.heap.size wr w1 := b0.grown g1 (by simp) (by intro k hk; cases hk; exact Nat.le_refl _); have o1' := Own.below o1 (below_alloc w1 (.cells #[.slice au x.length cu] 22)); have b1' := b1.alloc b1.size (.cells #[.slice au x.length cu] 22); have hr1 := row_one w1 (.slice au x.length cu) 22)
                    | (at_builtin; (refine app_outer rfl (.tmp 62) (.tmp 64) rfl rfl o1' rfl hr1 hone3'.out (by show us1.length + 1 ≤ 1099511627776; omega) b1'.size ?_; intro v2 w2 o2 g2; obtain ⟨us2, hus2⟩ : ∃ us2, us2 = (us1 ++ [.slice au x.length cu]) := ⟨_, rfl⟩; rw [← hus2] at o2; have hus2' := Lib.hid hus2; have hu2l : us2.length ≤ 20481 := (by rw [hus2, List.length_append]; show us1.length + 1 ≤ 20481; omega); clear hus2; obtain ⟨n2, c2, rfl, l2, _, _⟩ := Own.form o2; have b2 : Below wr.heap.size wr w2 := b1'.grown g2 b1'.size (fun b hb => (Own.lt o1' hb).1); have htl2 := RowAt.below htl'.out b2))
                    | (at_builtin; (refine app_outer rfl (.tmp 66) (.tmp 69) rfl rfl o2 rfl htl2 hone2'.out (by have := hA3.out; omega) b2.size ?_); intro v3 w3 o3 g3))
                  have b3 : Below wr.heap.size wr w3 := b2.grown g3 b2.size (fun b hb => (Own.lt o2 hb).1)
                  rw [hus2'.out, hus1'.out] at o3
                  have hR : RowsAt w3 v3 (Words.ins W x) := by
                    rw [hins.out]
                    refine ⟨_, Own.row o3, by simp <;> omega, fun q xs hq => ?_⟩
                    by_cases h1 : q < i
                    · rw [List.getElem?_append_left (by rw [List.length_take]; omega), List.getElem?_take, if_pos h1] at hq
                      obtain ⟨u, hu, hiu⟩ := hvv.out q xs hq
                      refine ⟨u, ?_, hiu.below b3⟩
                      rw [List.append_assoc, List.getElem?_append_left (by rw [List.nil_append, List.length_take]; omega), List.nil_append, List.getElem?_take, if_pos h1]
                      exact hu
                    · rw [List.getElem?_append_right (by rw [List.length_take]; omega), List.length_take, Nat.min_eq_left hiW] at hq
                      rw [List.nil_append, List.append_assoc, List.getElem?_append_right (by rw [List.length_take]; omega), List.length_take, Nat.min_eq_left (show i ≤ vs.length by omega), List.singleton_append]
                      by_cases h2 : q - i = 0
                      · rw [h2, List.getElem?_cons_zero] at hq
                        rw [h2, List.getElem?_cons_zero]
                        cases hq
                        exact ⟨_, rfl, hux.out.below b3⟩
                      · obtain ⟨d, hd⟩ : ∃ d, q - i = d + 1 := ⟨q - i - 1, by omega⟩
                        rw [hd, List.getElem?_cons_succ, List.getElem?_drop] at hq
                        rw [hd, List.getElem?_cons_succ, List.getElem?_drop]
                        obtain ⟨u, hu, hiu⟩ := hvv.out _ xs hq
                        exact ⟨u, hu, hiu.below b3⟩
                  have hR' : RowsAt w3 v3 (Words.isort (Words.allTo k n0 j ++ l.take (r + 1))) := by rw [hst2.out]; exact hR
                  obtain ⟨n3, c3', rfl, _, _, _⟩ := hR'.form
                  clear hR
                  go_roundg (gk2 - 1)
                  case measure => omega
                  case rel => exact ⟨r + 1, by go_num, hR', bwl.trans (b3.mono bwl.size), by omega, by omega⟩
              · have hhi : Hid (∀ z, W[i]? = some z → ¬ Words.cmpL z x < 0) := Lib.hid (fun z hz => by rw [List.getElem?_eq_none (by omega)] at hz; cases hz)
                obtain rfl : i = W.length := by omega
                by_cases hci : c6 = W.length
                · have hci' := hci
                  subst hci
                  have hins : Hid (Words.ins W x = W.take W.length ++ x :: W.drop W.length) := Lib.hid (Words.ins_at hiW hlow.out hhi.out)
                  have b0 := below_alloc wr (.cells #[] 22)
                  have hup := RowAt.below (RowAt.upto hrow.out (k := W.length) (by omega)) b0
                  have htl0 := RowAt.tail hrow.out (k := W.length) (by omega)
                  have htl : RowAt wr (.slice a6 0 0) (vs.drop W.length) := by
                    rw [if_pos rfl, Nat.sub_self] at htl0; exact htl0
                  clear htl0
                  have hi63 : (W.length : Int) ≤ W.length := by omega
                  have hica : W.length ≤ W.length := Nat.le_refl _
                  have hone1 : ∀ y ∈ vs.take W.length, y.oneCell' = true := fun y hy => hone.out y (List.mem_of_mem_take hy)
                  have hone2 : ∀ y ∈ vs.drop W.length, y.oneCell' = true := fun y hy => hone.out y (List.mem_of_mem_drop hy)
                  have hvs : vs.length ≤ 20480 := by omega
                  have hA1 : Hid (∀ us1 : List Value, us1 = ([] ++ vs.take W.length) → us1.length ≤ 20480) := Lib.hid (fun z h => by rw [h, List.nil_append, List.length_take]; omega)
                  have hA3 : Hid ((vs.drop W.length).length ≤ 20480) := Lib.hid (by rw [List.length_drop]; omega)
                  have hone3' : Hid (∀ y ∈ [Value.slice au x.length cu], y.oneCell' = true) := Lib.hid (fun y hy => by rw [List.mem_singleton] at hy; rw [hy]; rfl)
                  have htl' := Lib.hid htl
                  have hup' := Lib.hid hup
                  have hone1' := Lib.hid hone1
                  have hone2' := Lib.hid hone2
                  clear htl hup hone1 hone2
                  go_wp2_with (first
                    | (at_builtin; (refine app_outer rfl (.tmp 57) (.tmp 60) rfl rfl (own_outer_empty wr) rfl hup'.out hone1'.out (by simp; omega) (by simp) ?_); intro v1 w1 o1 g1; change World.grownBy _ w1 (some wr.heap.size) at g1; obtain ⟨us1, hus1⟩ : ∃ us1, us1 = ([] ++ vs.take W.length) := ⟨_, rfl⟩; rw [← hus1] at o1; have hus1' := Lib.hid hus1; have hu1l : us1.length ≤ 20480 := hA1.out _ hus1; clear hus1; obtain ⟨n1, c1, rfl, l1, _, _⟩ := Own.form o1; have b1 : Below wr.heap.size wr w1 := b0.grown g1 (by simp) (by intro k hk; cases hk; exact Nat.le_refl _); have o1' := Own.below o1 (below_alloc w1 (.cells #[.slice au x.length cu] 22)); have b1' := b1.alloc b1.size (.cells #[.slice au x.length cu] 22); have hr1 := row_one w1 (.slice au x.length cu) 22)
                    | (at_builtin; (refine app_outer rfl (.tmp 62) (.tmp 64) rfl rfl o1' rfl hr1 hone3'.out (by show us1.length + 1 ≤ 1099511627776; omega) b1'.size ?_; intro v2 w2 o2 g2; obtain ⟨us2, hus2⟩ : ∃ us2, us2 = (us1 ++ [.slice au x.length cu]) := ⟨_, rfl⟩; rw [← hus2] at o2; have hus2' := Lib.hid hus2; have hu2l : us2.length ≤ 20481 := (by rw [hus2, List.length_append]; show us1.length + 1 ≤ 20481; omega); clear hus2; obtain ⟨n2, c2, rfl, l2, _, _⟩ := Own.form o2; have b2 : Below wr.heap.size wr w2 := b1'.grown g2 b1'.size (fun b hb => (Own.lt o1' hb).1); have htl2 := RowAt.below htl'.out b2))
                    | (at_builtin; (refine app_outer rfl (.tmp 66) (.tmp 69) rfl rfl o2 rfl htl2 hone2'.out (by have := hA3.out; omega) b2.size ?_); intro v3 w3 o3 g3))
                  have b3 : Below wr.heap.size wr w3 := b2.grown g3 b2.size (fun b hb => (Own.lt o2 hb).1)
                  rw [hus2'.out, hus1'.out] at o3
                  have hR : RowsAt w3 v3 (Words.ins W x) := by
                    rw [hins.out]
                    refine ⟨_, Own.row o3, by simp <;> omega, fun q xs hq => ?_⟩
                    by_cases h1 : q < W.length
                    · rw [List.getElem?_append_left (by rw [List.length_take]; omega), List.getElem?_take, if_pos h1] at hq
                      obtain ⟨u, hu, hiu⟩ := hvv.out q xs hq
                      refine ⟨u, ?_, hiu.below b3⟩
                      rw [List.append_assoc, List.getElem?_append_left (by rw [List.nil_append, List.length_take]; omega), List.nil_append, List.getElem?_take, if_pos h1]
                      exact hu
                    · rw [List.getElem?_append_right (by rw [List.length_take]; omega), List.length_take, Nat.min_eq_left hiW] at hq
                      rw [List.nil_append, List.append_assoc, List.getElem?_append_right (by rw [List.length_take]; omega), List.length_take, Nat.min_eq_left (show W.length ≤ vs.length by omega), List.singleton_append]
                      by_cases h2 : q - W.length = 0
                      · rw [h2, List.getElem?_cons_zero] at hq
                        rw [h2, List.getElem?_cons_zero]
                        cases hq
                        exact ⟨_, rfl, hux.out.below b3⟩
                      · obtain ⟨d, hd⟩ : ∃ d, q - W.length = d + 1 := ⟨q - W.length - 1, by omega⟩
                        rw [hd, List.getElem?_cons_succ, List.getElem?_drop] at hq
                        rw [hd, List.getElem?_cons_succ, List.getElem?_drop]
                        obtain ⟨u, hu, hiu⟩ := hvv.out _ xs hq
                        exact ⟨u, hu, hiu.below b3⟩
                  have hR' : RowsAt w3 v3 (Words.isort (Words.allTo k n0 j ++ l.take (r + 1))) := by rw [hst2.out]; exact hR
                  obtain ⟨n3, c3', rfl, _, _, _⟩ := hR'.form
                  clear hR
                  go_roundg (gk2 - 1)
                  case measure => omega
                  case rel => exact ⟨r + 1, by go_num, hR', bwl.trans (b3.mono bwl.size), by omega, by omega⟩
                · have hne6 := hci
                  have hins : Hid (Words.ins W x = W.take W.length ++ x :: W.drop W.length) := Lib.hid (Words.ins_at hiW hlow.out hhi.out)
                  have b0 := below_alloc wr (.cells #[] 22)
                  have hup := RowAt.below (RowAt.upto hrow.out (k := W.length) (by omega)) b0
                  have htl0 := RowAt.tail hrow.out (k := W.length) (by omega)
                  have htl : RowAt wr (.slice (Option.map (fun x => x.add W.length) a6) 0 (c6 - W.length)) (vs.drop W.length) := by
                    rw [if_neg hci, Nat.sub_self] at htl0; exact htl0
                  clear htl0
                  have hi63 : (W.length : Int) ≤ W.length := by omega
                  have hica : W.length ≤ c6 := by omega
                  have hone1 : ∀ y ∈ vs.take W.length, y.oneCell' = true := fun y hy => hone.out y (List.mem_of_mem_take hy)
                  have hone2 : ∀ y ∈ vs.drop W.length, y.oneCell' = true := fun y hy => hone.out y (List.mem_of_mem_drop hy)
                  have hvs : vs.length ≤ 20480 := by omega
                  have hA1 : Hid (∀ us1 : List Value, us1 = ([] ++ vs.take W.length) → us1.length ≤ 20480) := Lib.hid (fun z h => by rw [h, List.nil_append, List.length_take]; omega)
                  have hA3 : Hid ((vs.drop W.length).length ≤ 20480) := Lib.hid (by rw [List.length_drop]; omega)
                  have hone3' : Hid (∀ y ∈ [Value.slice au x.length cu], y.oneCell' = true) := Lib.hid (fun y hy => by rw [List.mem_singleton] at hy; rw [hy]; rfl)
                  have htl' := Lib.hid htl
                  have hup' := Lib.hid hup
                  have hone1' := Lib.hid hone1
                  have hone2' := Lib.hid hone2
                  clear htl hup hone1 hone2
                  go_wp2_with (first
                    | (at_builtin; (refine app_outer rfl (.tmp 57) (.tmp 60) rfl rfl (own_outer_empty wr) rfl hup'.out hone1'.out (by simp; omega) (by simp) ?_); intro v1 w1 o1 g1; change World.grownBy _ w1 (some wr.heap.size) at g1; obtain ⟨us1, hus1⟩ : ∃ us1, us1 = ([] ++ vs.take W.length) := ⟨_, rfl⟩; rw [← hus1] at o1; have hus1' := Lib.hid hus1; have hu1l : us1.length ≤ 20480 := hA1.out _ hus1; clear hus1; obtain ⟨n1, c1, rfl, l1, _, _⟩ := Own.form o1; have b1 : Below wr.heap.size wr w1 := b0.grown g1 (by simp) (by intro k hk; cases hk; exact Nat.le_refl _); have o1' := Own.below o1 (below_alloc w1 (.cells #[.slice au x.length cu] 22)); have b1' := b1.alloc b1.size (.cells #[.slice au x.length cu] 22); have hr1 := row_one w1 (.slice au x.length cu) 22)
                    | (at_builtin; (refine app_outer rfl (.tmp 62) (.tmp 64) rfl rfl o1' rfl hr1 hone3'.out (by show us1.length + 1 ≤ 1099511627776; omega) b1'.size ?_; intro v2 w2 o2 g2; obtain ⟨us2, hus2⟩ : ∃ us2, us2 = (us1 ++ [.slice au x.length cu]) := ⟨_, rfl⟩; rw [← hus2] at o2; have hus2' := Lib.hid hus2; have hu2l : us2.length ≤ 20481 := (by rw [hus2, List.length_append]; show us1.length + 1 ≤ 20481; omega); clear hus2; obtain ⟨n2, c2, rfl, l2, _, _⟩ := Own.form o2; have b2 : Below wr.heap.size wr w2 := b1'.grown g2 b1'.size (fun b hb => (Own.lt o1' hb).1); have htl2 := RowAt.below htl'.out b2))
                    | (at_builtin; (refine app_outer rfl (.tmp 66) (.tmp 69) rfl rfl o2 rfl htl2 hone2'.out (by have := hA3.out; omega) b2.size ?_); intro v3 w3 o3 g3))
                  have b3 : Below wr.heap.size wr w3 := b2.grown g3 b2.size (fun b hb => (Own.lt o2 hb).1)
                  rw [hus2'.out, hus1'.out] at o3
                  have hR : RowsAt w3 v3 (Words.ins W x) := by
                    rw [hins.out]
                    refine ⟨_, Own.row o3, by simp <;> omega, fun q xs hq => ?_⟩
                    by_cases h1 : q < W.length
                    · rw [List.getElem?_append_left (by rw [List.length_take]; omega), List.getElem?_take, if_pos h1] at hq
                      obtain ⟨u, hu, hiu⟩ := hvv.out q xs hq
                      refine ⟨u, ?_, hiu.below b3⟩
                      rw [List.append_assoc, List.getElem?_append_left (by rw [List.nil_append, List.length_take]; omega), List.nil_append, List.getElem?_take, if_pos h1]
                      exact hu
                    · rw [List.getElem?_append_right (by rw [List.length_take]; omega), List.length_take, Nat.min_eq_left hiW] at hq
                      rw [List.nil_append, List.append_assoc, List.getElem?_append_right (by rw [List.length_take]; omega), List.length_take, Nat.min_eq_left (show W.length ≤ vs.length by omega), List.singleton_append]
                      by_cases h2 : q - W.length = 0
                      · rw [h2, List.getElem?_cons_zero] at hq
                        rw [h2, List.getElem?_cons_zero]
                        cases hq
                        exact ⟨_, rfl, hux.out.below b3⟩
                      · obtain ⟨d, hd⟩ : ∃ d, q - W.length = d + 1 := ⟨q - W.length - 1, by omega⟩
                        rw [hd, List.getElem?_cons_succ, List.getElem?_drop] at hq
                        rw [hd, List.getElem?_cons_succ, List.getElem?_drop]
                        obtain ⟨u, hu, hiu⟩ := hvv.out _ xs hq
                        exact ⟨u, hu, hiu.below b3⟩
                  have hR' : RowsAt w3 v3 (Words.isort (Words.allTo k n0 j ++ l.take (r + 1))) := by rw [hst2.out]; exact hR
                  obtain ⟨n3, c3', rfl, _, _, _⟩ := hR'.form
                  clear hR
                  go_roundg (gk2 - 1)
                  case measure => omega
                  case rel => exact ⟨r + 1, by go_num, hR', bwl.trans (b3.mono bwl.size), by omega, by omega⟩
          · obtain rfl : r = l.length := by omega
            rw [List.take_of_length_le (Nat.le_refl _)] at hW
            have hR : RowsAt wr (.slice a6 W.length c6) (Words.isort (Words.allTo k n0 (j + 1))) := by rw [hst.out, ← hW]; exact rr'.out
            have hR' := Lib.hid hR
            have hWj : W.length = (Words.isort (Words.allTo k n0 (j + 1))).length := by rw [hW, hst.out]
            clear hR hW
            go_wp2_with fail
            go_roundg (gk1 - 1)
            case measure => omega
            case rel => exact ⟨j + 1, by go_num, hR'.out, bj2.trans (bwl.mono bj2.size), by omega, by omega⟩
      · have hz' : ((n0 : Int) % ((j : Int) + 1) != 0) = true := by simpa using hz
        have hst : Hid (Words.allTo k n0 (j + 1) = Words.allTo k n0 j) := Lib.hid (by simp only [Words.allTo]; rw [if_neg hz, List.append_nil])
        have rj' : RowsAt wr (.slice a0 (Words.isort (Words.allTo k n0 j)).length c0) (Words.isort (Words.allTo k n0 (j + 1))) := by rw [hst.out]; exact rj
        have rj'' := Lib.hid rj'
        clear hz rj'
        go_wp2_with fail
        go_roundg (gk - 1)
        case measure => omega
        case rel => exact ⟨j + 1, by go_num, rj''.out, bj, by omega, by omega⟩
    · obtain rfl : j = n0 := by omega
      obtain ⟨W, hW⟩ : ∃ W, W = Words.isort (Words.allTo k j j) := ⟨_, rfl⟩
      have hbg : W.flatten.length ≤ 1048576 := by
        have h1 := Words.flat_le (l := Words.isort (Words.allTo k j j)) (n := 10) fun x hx => Words.allTo_mem ((Words.isort_perm _).mem_iff.1 hx)
        rw [Words.isort_len] at h1
        rw [hW]
        omega
      have Hw : Hid (∀ v w', OwnInts w' w.heap.size v W.flatten → Below w.heap.size w w' → Q (.returned (.tuple #[v, .bool true])) w') := Lib.hid (by rw [hW]; exact Hok.out)
      rw [← hW] at rj ⊢
      have rj' := Lib.hid rj
      have hbg' := Lib.hid hbg
      obtain ⟨_, _, _, hW63, _, _⟩ := rj.form
      clear hW rj hbg
      go_wp2_with fail
      have o1 := own_empty wr
      have b1 := below_alloc wr (.cells #[] 3)
      go_loopg [14, 75] W.length (fun g u14 u75 w2 => ∃ i : Nat, u75 = .int .i64 i ∧ OwnInts w2 wr.heap.size u14 (W.take i).flatten ∧ Below wr.heap.size wr w2 ∧ i + g ≤ W.length ∧ W.length ≤ i + g)
      case atStart => exact ⟨0, rfl, by simpa using o1, b1, by omega, by omega⟩
      case round =>
        obtain ⟨i, rfl, oi, bi, hi1, hi2⟩ := hrel
        obtain ⟨a14, c14, rfl, _, _, _⟩ := Own.form oi
        by_cases hi : i < W.length
        · obtain ⟨b, off, u, x, e9, hx, hcw, hix⟩ := (rj'.out.below bi).cell hi
          obtain ⟨au, cu, rfl, _, _, _⟩ := hix.form
          subst e9
          have i1 : (i : Int) < W.length := by omega
          have hfp1 := flat_part W (i + 1)
          have hst := Lib.hid (flat_step hx.out)
          have hlen : (W.take i).flatten.length + x.length ≤ 1048576 := by
            have := congrArg List.length hst.out
            rw [List.length_append] at this
            have := hbg'.out
            omega
          have hix' := Lib.hid hix
          clear hix hfp1
          go_wp2_with (at_builtin; refine app_ints rfl (.tmp 79) (.tmp 80) rfl rfl oi rfl hix'.out (by omega) bi.size ?_; intro v10 w10 o10 g10)
          rw [← hst.out] at o10
          go_roundg (gk - 1)
          case measure => omega
          case rel => exact ⟨i + 1, by go_num, o10, bi.grown g10 bi.size (fun b hb => (Own.lt oi hb).1), by omega, by omega⟩
        · rw [List.take_of_length_le (by omega)] at oi ⊢
          have h3 := Lib.hid (Hw.out _ _ (OwnInts.mono oi bj.size) (bj.trans (bi.mono bj.size)))
          go_wp2_with fail
          exact h3.out
end Go.Proofs.Ytmlmpneikhdgcaa
