/-
  The next necklace, as the reference seeks it.
-/
import Derived.Test.YtmlmpneikhdgcaaNext
import Derived.Test.YtmlmpneikhdgcaaNxt
set_option linter.unusedVariables false
namespace Go.Proofs.Ytmlmpneikhdgcaa
open Go.RowKit

/-- The necklaces above a word are those behind it among all words. -/
theorem Words.vis_from {k n i : Nat} {xs : List Int} (hi : (Perms.wordsN k n)[i]? = some xs) : Words.vis k xs n [] false = ((Perms.wordsN k n).drop (i + 1)).filter Words.neckP := by
  rw [Words.vis_next]
  have hA := Perms.wordsN_asc (k := k) n
  have e : Perms.wordsN k n = (Perms.wordsN k n).take (i + 1) ++ (Perms.wordsN k n).drop (i + 1) := (List.take_append_drop _ _).symm
  conv => lhs; rw [e]
  rw [List.filter_append]
  have h1 : ((Perms.wordsN k n).take (i + 1)).filter (fun w => Words.neckP w && decide (Words.cmpL xs w < 0)) = [] := by
    rw [List.filter_eq_nil_iff]
    intro w hw
    obtain ⟨j, hj⟩ := List.getElem?_of_mem hw
    rw [List.getElem?_take] at hj
    split at hj
    · rename_i hji
      have : ¬ Words.cmpL xs w < 0 := by
        by_cases hj2 : j = i
        · subst hj2
          rw [hi] at hj
          cases hj
          rw [Words.cmpL_self]; omega
        · have := hA j i w xs (by omega) hj hi
          rw [Words.cmpL_neg]; omega
      simp [this]
    · cases hj
  rw [h1, List.nil_append]
  apply List.filter_congr
  intro w hw
  obtain ⟨j, hj⟩ := List.getElem?_of_mem hw
  rw [List.getElem?_drop] at hj
  have := hA i (i + 1 + j) xs w (by omega) hi hj
  simp [this]
theorem Words.okW_in {xs : List Int} {k : Int} (h : Words.nextOk xs k = true) : 1 ≤ k ∧ k ≤ 4 ∧ 1 ≤ xs.length ∧ xs.length ≤ 10 ∧ xs ∈ Perms.wordsN k.toNat xs.length := by
  unfold Words.nextOk at h
  simp only [Bool.and_eq_true, decide_eq_true_eq] at h
  obtain ⟨h1, ⟨h2, h3⟩, h4⟩ := h
  have hl := Words.okW_len h1
  refine ⟨h2, h3, hl.1, hl.2, Perms.wordsN_mem.2 ⟨rfl, fun x hx => ?_⟩⟩
  have a := Words.okW_all h1 x hx
  have b := of_decide_eq_true (List.all_eq_true.1 h4 x hx)
  omega
set_option maxHeartbeats 800000 in
theorem l07Below_c {va : Value} {xs : List Int} {k : Int} {w : World} {Q : Ending → World → Prop} (ha : IntsAt w va xs)
    (hQ : Q (.returned (.bool (Words.nextOk xs k))) w) :
    Calls Try.prog 48 #[va, .int .i64 k] w Q := by
  have H := Lib.hid hQ; clear hQ
  have ha0 := Lib.hid ha
  obtain ⟨aa, ca, rfl, la, lca, cca⟩ := ha.form
  go_enter Try.func48, Try.ntmps48
  go_wp2_with fail
  go_loopg [9] xs.length (fun g i wr => Hid (wr = w) ∧ ∃ j : Nat, i = .int .i64 j ∧ Hid ((xs.take j).all (fun x => decide (x < k)) = true) ∧ j + g ≤ xs.length ∧ xs.length ≤ j + g)
  case atStart => exact ⟨Lib.hid rfl, 0, rfl, Lib.hid rfl, by omega, by omega⟩
  case round =>
    obtain ⟨hw, j, rfl, hg, hk1, hk2⟩ := hrel
    obtain rfl := hw.out
    clear hw
    by_cases hj : j < xs.length
    · obtain ⟨ba, oa, x, rfl, hx, hcx⟩ := ha.cell hj
      have i1 : (j : Int) < xs.length := by omega
      by_cases hxk : k ≤ x
      · have hf : Hid (Words.nextOk xs k = false) := Lib.hid (by
          have h1 : (xs.all fun x => decide (x < k)) = false := by
            cases hh : xs.all fun x => decide (x < k) with
            | false => rfl
            | true =>
              have := of_decide_eq_true (List.all_eq_true.1 hh x (List.mem_of_getElem? hx.out))
              omega
          unfold Words.nextOk; rw [h1, Bool.and_false, Bool.and_false])
        go_wp2_with fail
        exact boolq' H.out hf.out
      · have hs : Hid ((xs.take (j + 1)).all (fun x => decide (x < k)) = true) := Lib.hid (by
          rw [List.take_add_one, hx.out, List.all_append, hg.out]; simp; omega)
        go_wp2_with fail
        go_roundg (gk - 1)
        case measure => omega
        case rel => exact ⟨Lib.hid rfl, j + 1, by go_num, hs, by omega, by omega⟩
    · have hal : Hid ((xs.all fun x => decide (x < k)) = true) := Lib.hid (by
        have := hg.out; rwa [List.take_of_length_le (by omega)] at this)
      have hno : Hid (Words.nextOk xs k = (Words.okW xs && decide (1 ≤ k ∧ k ≤ 4))) := Lib.hid (by unfold Words.nextOk; rw [hal.out, Bool.and_true])
      go_wp2_with fail
      refine ColoringOk_s ha0.out ?_
      cases hok : Words.okW xs with
      | false =>
        have hf : Hid (Words.nextOk xs k = false) := Lib.hid (by rw [hno.out, hok]; rfl)
        clear hok
        go_wp2_with fail
        exact boolq' H.out hf.out
      | true =>
        have hf : Hid (Words.nextOk xs k = decide (1 ≤ k ∧ k ≤ 4)) := Lib.hid (by rw [hno.out, hok]; rfl)
        clear hok
        go_wp2_with (go_at_call 57; refine l01In_c ?_)
        refine boolq' H.out ?_
        rw [hf.out, Bool.eq_iff_iff]
        simp
set_option maxHeartbeats 1600000 in
theorem NextNecklace_s {va : Value} {xs : List Int} {k : Int} {w : World} {Q : Ending → World → Prop} (ha : IntsAt w va xs)
    (hQ : ∀ v w', OwnInts w' w.heap.size v (Words.nextW xs k) → Below w.heap.size w w' → Q (.returned (.tuple #[v, .bool (Words.nextB xs k)])) w') :
    Calls Try.prog 13 #[va, .int .i64 k] w Q := by
  have H := Lib.hid hQ; clear hQ
  have ha0 := Lib.hid ha
  obtain ⟨aa, ca, rfl, la, lca, cca⟩ := ha.form
  have none' : ∀ w', Below w.heap.size w w' → Words.nextO xs k = none → Q (.returned (.tuple #[.slice none 0 0, .bool false])) w' := fun w' hb e => by
    have := H.out (.slice none 0 0) w' (by unfold Words.nextW; rw [e]; exact Own.nil _ _ _) hb
    unfold Words.nextB at this
    rw [e] at this; exact this
  have none'' := Lib.hid none'
  clear none'
  go_enter Try.func13, Try.ntmps13
  go_wp2_with fail
  refine l07Below_c ha0.out ?_
  by_cases hok : Words.nextOk xs k = true
  rotate_left
  · have hok2 : Words.nextOk xs k = false := by simpa using hok
    have e : Hid (Words.nextO xs k = none) := Lib.hid (by unfold Words.nextO; rw [if_neg hok])
    rw [hok2]
    clear hok hok2
    go_wp2_with fail
    exact none''.out _ (Below.refl _ _) e.out
  obtain ⟨hk1, hk4, hl1, hl2, hmem⟩ := Words.okW_in hok
  have hno : Hid (Words.nextO xs k = (Words.vis k.toNat xs xs.length [] false).head?) := Lib.hid (by unfold Words.nextO; rw [if_pos hok])
  rw [hok]
  clear hok
  obtain ⟨i, hi⟩ := List.getElem?_of_mem hmem
  have hvf := Lib.hid (Words.vis_from hi)
  have hi' := Lib.hid hi
  have hwm : Hid (∀ w ∈ Perms.wordsN k.toNat xs.length, w.length = xs.length ∧ ∀ x ∈ w, 0 ≤ x ∧ x < k) := Lib.hid fun w hw => by
    obtain ⟨h1, h2⟩ := Perms.wordsN_mem.1 hw
    exact ⟨h1, fun x hx => by have := h2 x hx; omega⟩
  have hwn : Hid (∀ (j : Nat) (w : List Int), (Perms.wordsN k.toNat xs.length)[j]? = some w → Perms.nextL k w = (Perms.wordsN k.toNat xs.length)[j + 1]?) := Lib.hid fun j w hw => by
    have := Perms.wordsN_next (by omega) hw
    rwa [show ((k.toNat : Nat) : Int) = k from by omega] at this
  obtain ⟨ws, hws⟩ : ∃ ws, ws = Perms.wordsN k.toNat xs.length := ⟨_, rfl⟩
  rw [← hws] at hvf hi' hwm hwn
  clear hws hi hmem
  go_wp2_with (at_builtin; refine app_ints rfl (.tmp 11) (.tmp 12) rfl rfl (own_empty w) rfl (ha0.out.below (below_alloc w _)) (by simp; omega) (by simp) ?_; intro v1 w1 o1 g1; change World.grownBy _ w1 (some w.heap.size) at g1; obtain ⟨ao1, ca1, rfl, _, _, _⟩ := Own.form o1)
  have b1 : Below w.heap.size w w1 := (below_alloc w _).grown g1 (by simp) (by intro k hk; cases hk; exact Nat.le_refl _)
  rw [List.nil_append] at o1
  obtain ⟨g1', rfl, hgB, _⟩ := Own.head o1 (by rw [ints_len]; omega)
  clear g1
  go_loopg [14] ws.length (fun gg u wr => ∃ (j : Nat) (cur : List Int), Hid (ws[j]? = some cur) ∧ cur.length = xs.length ∧ Hid ((ws.drop (i + 1)).filter Words.neckP = (ws.drop (j + 1)).filter Words.neckP) ∧ OwnInts wr w.heap.size (.slice (some ⟨g1', 0, none⟩) (ints xs).length ca1) cur ∧ Below w.heap.size w wr ∧ ws.length ≤ j + gg)
  case atStart => exact ⟨i, xs, hi', rfl, Lib.hid rfl, o1, b1, by omega⟩
  case round =>
    obtain ⟨j, cur, hj, hcl, hfl, ho, hbw, hm⟩ := hrel
    have hcr := Lib.hid (hwm.out cur (List.mem_of_getElem? hj.out)).2
    have hjl : j < ws.length := (List.getElem?_eq_some_iff.1 hj.out).1
    go_wp2_with fail
    refine next_n (by rw [ints_len]; exact hcl) ho hk1 hk4 hcr.out (by rw [ints_len]; omega) ?_ ?_
    · intro ys w2 hy hoy g2
      have hj1 : ws[j + 1]? = some ys := by rw [← hwn.out j cur hj.out]; exact hy
      obtain ⟨hyl, hyr⟩ := hwm.out ys (List.mem_of_getElem? hj1)
      have hj1l := (List.getElem?_eq_some_iff.1 hj1).1
      have hbw2 : Below w.heap.size w w2 := hbw.grown g2 hbw.size (fun b hb => by cases hb; exact hgB)
      have hyo : Words.okW ys = true := Words.okW_mk (by omega) (by omega) (fun x hx => by have := hyr x hx; omega)
      have hyp := Lib.hid (Words.neckB_P hyo)
      have hdr : Hid ((ws.drop (j + 1)).filter Words.neckP = (if Words.neckP ys = true then [ys] else []) ++ (ws.drop (j + 2)).filter Words.neckP) := Lib.hid (by
        obtain ⟨h1, h2⟩ := List.getElem?_eq_some_iff.1 hj1
        rw [List.drop_eq_getElem_cons h1, h2, List.filter_cons]
        by_cases hp : Words.neckP ys = true <;> simp [hp])
      have hj1' := Lib.hid hj1
      clear hy hj1 hyo hyr
      go_wp2_with fail
      refine IsNecklace_s (OwnInts.at hoy) (by omega) ?_
      intro w3 b3
      rw [hyp.out]
      have hoy3 := OwnInts.below hoy b3
      have hbw3 : Below w.heap.size w w3 := hbw2.trans (b3.mono hbw2.size)
      by_cases hp : Words.neckP ys = true
      · have e : Hid (Words.nextO xs k = some ys) := Lib.hid (by rw [hno.out, hvf.out, hfl.out, hdr.out, if_pos hp]; rfl)
        have h2 := H.out _ w3 (by unfold Words.nextW; rw [e.out]; exact hoy3) hbw3
        unfold Words.nextB at h2
        rw [e.out] at h2
        have h3 := Lib.hid h2
        rw [hp]
        clear h2 hp
        go_wp2_with fail
        exact h3.out
      · have hp2 : Words.neckP ys = false := by simpa using hp
        have hfl2 : Hid ((ws.drop (i + 1)).filter Words.neckP = (ws.drop (j + 1 + 1)).filter Words.neckP) := Lib.hid (by rw [hfl.out, hdr.out, if_neg hp]; rfl)
        rw [hp2]
        clear hp hp2
        go_wp2_with fail
        go_roundg (gk - 1)
        case measure => omega
        case rel => exact ⟨j + 1, ys, hj1', hyl, hfl2, hoy3, hbw3, by omega⟩
    · intro w2 hy g2
      have hj1 : ws.length ≤ j + 1 := by
        rw [hwn.out j cur hj.out] at hy
        exact List.getElem?_eq_none_iff.1 hy
      have hbw2 : Below w.heap.size w w2 := hbw.grown g2 hbw.size (fun b hb => by cases hb; exact hgB)
      have e : Hid (Words.nextO xs k = none) := Lib.hid (by rw [hno.out, hvf.out, hfl.out, List.drop_eq_nil_of_le hj1]; rfl)
      clear hy
      go_wp2_with fail
      exact none''.out _ hbw2 e.out
end Go.Proofs.Ytmlmpneikhdgcaa
