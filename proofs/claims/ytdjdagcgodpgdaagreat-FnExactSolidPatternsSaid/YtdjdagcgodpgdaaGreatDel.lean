/-
  'slices.IndexFunc' and 'slices.DeleteFunc' of lists of integers, with a closure that makes memory of its own and changes none.
-/
import Derived.Test.YtdjdagcgodpgdaaGreatMemT
import Derived.Lib.SliceRun
import Derived.Shelf.Abstract
set_option linter.unusedVariables false
namespace Go.Proofs.YtdjdagcgodpgdaaGreat
open Go.RowKit

/-- What a closure says of each list of xss, in whatever world that has the same memory below B. -/
def Says (f : Nat) (lb : Array Value) (B : Nat) (w0 : World) (xss : List (List Int)) (P : List Int → Bool) : Prop :=
  ∀ (wr : World) (u : Value) (xs : List Int) (Q : Ending → World → Prop), Below B w0 wr → xs ∈ xss → IntsAt wr u xs →
    (∀ w', Below wr.heap.size wr w' → Q (.returned (.bool (P xs))) w') → Calls Tryz.prog f (#[u] ++ lb) wr Q
theorem own_setCells {B : Nat} {T : TypeId} {g n cap : Nat} : ∀ (vs : List Value) (o : Nat) {w : World} {cur : List Value}, Own w B T (.slice (some ⟨g, 0, none⟩) n cap) cur →
    ∃ cur', Own (w.setCells g o vs) B T (.slice (some ⟨g, 0, none⟩) n cap) cur' ∧ cur'.take o = cur.take o ∧ w.grownBy (w.setCells g o vs) (some g)
  | [], o, w, cur, h => ⟨cur, h, rfl, ⟨rfl, rfl, rfl, Nat.le_refl _, fun _ _ _ => rfl⟩⟩
  | v :: vs, o, w, cur, h => by
    obtain ⟨cur', h1, h2, h3⟩ := own_setCells vs (o + 1) (h.set o v)
    refine ⟨cur', h1, ?_, grown_trans (grown_set w g o v) h3⟩
    have := congrArg (List.take o) h2
    rw [List.take_take, List.take_take, Nat.min_eq_left (by omega), List.take_set_of_le (Nat.le_refl _)] at this
    exact this
theorem Own.upto {w : World} {B : Nat} {T : TypeId} {g n cap k : Nat} {xs : List Value} (h : Own w B T (.slice (some ⟨g, 0, none⟩) n cap) xs) (hk : k ≤ n) : Own w B T (.slice (some ⟨g, 0, none⟩) k cap) (xs.take k) := by
  obtain rfl := h.len
  unfold Own at h ⊢
  rcases h.2 with ⟨he, _⟩ | ⟨g', cap', cur, he, hb, hgg, h1, h2, h3, h4⟩
  · cases he
  · simp only [Value.slice.injEq] at he
    obtain ⟨e1, _, rfl⟩ := he
    obtain rfl : g = g' := by simpa using e1
    rw [Nat.mul_one] at h3 h4
    refine ⟨by simp, .inr ⟨g, cap, cur, ?_, hb, hgg, ?_, h2, by omega, ?_⟩⟩
    · rw [List.length_take, Nat.min_eq_left hk]
    · rw [List.length_take]; omega
    · rw [List.length_take, Nat.min_eq_left hk, Nat.mul_one, ← h4, List.take_take, Nat.min_eq_left hk]
/-- What DeleteFunc has done at place j: the rows at the places 'is' stand at the head, those from j on where they stood. -/
structure DelInv (P : List Int → Bool) (xss : List (List Int)) (us : List Value) (j : Nat) (is : List Nat) (cur : List Value) : Prop where
  asc : is.Pairwise (· < ·)
  lt : ∀ i ∈ is, i < j
  sum : (is.map fun i => xss.getD i []) = (xss.take j).filter fun x => !P x
  len : cur.length = us.length
  low : ∀ t i : Nat, is[t]? = some i → cur[t]? = us[i]?
  high : ∀ t : Nat, j ≤ t → cur[t]? = us[t]?
  room : is.length < j
theorem DelInv.start {P : List Int → Bool} {xss : List (List Int)} {us : List Value} {k : Nat} {x : List Int} (hx : xss[k]? = some x) (hp : P x = true) (hb : ∀ (j : Nat) ys, j < k → xss[j]? = some ys → P ys = false) : DelInv P xss us (k + 1) (List.range k) us := by
  have hk : k < xss.length := (List.getElem?_eq_some_iff.1 hx).1
  refine ⟨List.pairwise_lt_range, fun i hi => by have := List.mem_range.1 hi; omega, ?_, rfl, ?_, fun _ _ => rfl, by simp⟩
  · rw [List.take_add_one, hx, List.filter_append]
    have h1 : (xss.take k).filter (fun x => !P x) = xss.take k := List.filter_eq_self.2 fun y hy => by
      obtain ⟨j, hj⟩ := List.getElem?_of_mem hy
      rw [List.getElem?_take] at hj
      split at hj
      · rename_i h
        rw [hb j y h hj]; rfl
      · cases hj
    rw [h1]
    simp [hp]
    apply List.ext_getElem?
    intro i
    by_cases h : i < k
    · rw [List.getElem?_map, List.getElem?_range h, List.getElem?_take, if_pos h]
      simp [List.getElem?_eq_getElem (show i < xss.length by omega)]
    · rw [List.getElem?_eq_none (by simp; omega), List.getElem?_eq_none (by simp; omega)]
  · intro t i ht
    have hl := (List.getElem?_eq_some_iff.1 ht).1
    rw [List.length_range] at hl
    rw [List.getElem?_range hl] at ht
    cases ht
    rfl
theorem DelInv.keep {P : List Int → Bool} {xss : List (List Int)} {us cur : List Value} {is : List Nat} {j : Nat} {x : List Int} {u : Value} (h : DelInv P xss us j is cur) (hx : xss[j]? = some x) (hu : us[j]? = some u) (hp : P x = false) : DelInv P xss us (j + 1) (is ++ [j]) (cur.set is.length u) := by
  have hl := (List.getElem?_eq_some_iff.1 hu).1
  have hr := h.room
  have hcl := h.len
  refine ⟨?_, ?_, ?_, by rw [List.length_set]; exact h.len, ?_, ?_, by rw [List.length_append, List.length_singleton]; omega⟩
  · rw [List.pairwise_append]
    refine ⟨h.asc, List.pairwise_singleton _ _, fun a ha b hb => ?_⟩
    rw [List.mem_singleton] at hb
    subst hb
    exact h.lt a ha
  · intro i hi
    rcases List.mem_append.1 hi with hi | hi
    · have := h.lt i hi; omega
    · rw [List.mem_singleton] at hi; omega
  · have := pick_step (f := fun x => !P x) h.sum hx
    rw [if_pos (by rw [hp]; rfl)] at this
    exact this
  · intro t i ht
    by_cases e : t < is.length
    · rw [List.getElem?_append_left e] at ht
      rw [List.getElem?_set_ne (by omega)]
      exact h.low t i ht
    · have h2 := (List.getElem?_eq_some_iff.1 ht).1
      rw [List.length_append, List.length_singleton] at h2
      obtain rfl : t = is.length := by omega
      rw [List.getElem?_append_right (Nat.le_refl _), Nat.sub_self] at ht
      cases ht
      rw [List.getElem?_set_self (by omega), hu]
  · intro t ht
    rw [List.getElem?_set_ne (by omega)]
    exact h.high t (by omega)
theorem DelInv.skip {P : List Int → Bool} {xss : List (List Int)} {us cur : List Value} {is : List Nat} {j : Nat} {x : List Int} (h : DelInv P xss us j is cur) (hx : xss[j]? = some x) (hp : P x = true) : DelInv P xss us (j + 1) is cur := by
  have hr := h.room
  refine ⟨h.asc, fun i hi => by have := h.lt i hi; omega, ?_, h.len, h.low, fun t ht => h.high t (by omega), by omega⟩
  have := pick_step (f := fun x => !P x) h.sum hx
  rw [if_neg (by rw [hp]; decide)] at this
  exact this
theorem DelInv.whole {P : List Int → Bool} {xss : List (List Int)} {us cur : List Value} {is : List Nat} {w : World} {B E : Nat} (h : DelInv P xss us xss.length is cur) (hr : Rows w B E us xss) : Rows w B E (cur.take is.length) (xss.filter fun x => !P x) := by
  have hp := hr.pick h.asc h.lt
  rw [h.sum, List.take_of_length_le (Nat.le_refl _)] at hp
  have e : (is.map fun i => us.getD i nilV) = cur.take is.length := by
    apply List.ext_getElem?
    intro t
    by_cases ht : t < is.length
    · have h1 := List.getElem?_eq_getElem ht
      have h2 := h.lt _ (List.getElem_mem ht)
      have hl := hr.1
      rw [List.getElem?_map, List.getElem?_take, if_pos ht, h.low t _ h1, h1]
      simp [List.getD, List.getElem?_eq_getElem (show is[t] < us.length by omega)]
    · rw [List.getElem?_eq_none (by simp; omega), List.getElem?_eq_none (by simp; omega)]
  rw [e] at hp
  exact hp
set_option maxHeartbeats 1000000 in
theorem findIf_c {f : Nat} {lb : Array Value} {P : List Int → Bool} (eg : ∀ args w, (callFunc f args).run Tryz.prog w = .ok (.enter f args) w) {va : Value} {xss : List (List Int)} {w : World} {Q : Ending → World → Prop} {B : Nat} (ha : RowsAt w va xss) (hB : B ≤ w.heap.size) (hs : Says f lb B w xss P)
    (h0 : ∀ w', Below w.heap.size w w' → (∀ xs ∈ xss, P xs = false) → Q (.returned (.int .i64 (-1))) w')
    (h1 : ∀ w' (k : Nat) xs, Below w.heap.size w w' → xss[k]? = some xs → P xs = true → (∀ (j : Nat) ys, j < k → xss[j]? = some ys → P ys = false) → Q (.returned (.int .i64 k)) w') :
    Calls Tryz.prog 87 #[va, .func (.func f) #[] lb] w Q := by
  have H0 := Lib.hid h0; clear h0
  have H1 := Lib.hid h1; clear h1
  have HS := Lib.hid hs; clear hs
  obtain ⟨aa, ca, rfl, la, lca, cca⟩ := ha.form
  go_enter Tryz.func87, Tryz.ntmps87
  go_wp2_with fail
  go_loopg [8] xss.length (fun g i wr => Below w.heap.size w wr ∧ ∃ j : Nat, i = .int .i64 j ∧ Hid (∀ (t : Nat) ys, t < j → xss[t]? = some ys → P ys = false) ∧ j + g ≤ xss.length ∧ xss.length ≤ j + g)
  case atStart => exact ⟨Below.refl _ _, 0, rfl, Lib.hid (fun t ys h => by omega), by omega, by omega⟩
  case round =>
    obtain ⟨hb, j, rfl, hg, hk1, hk2⟩ := hrel
    by_cases hj : j < xss.length
    · obtain ⟨b, off, u, xs, rfl, hx, hcw, hi⟩ := ha.cell hj
      have hc := below_cells hb _ _ hcw
      have i1 : (j : Int) < xss.length := by omega
      have hbB : Below B w wr := hb.mono hB
      have hi' := Lib.hid (hi.below hb)
      have hm := Lib.hid (List.mem_of_getElem? hx.out)
      clear hcw hi
      cases hp0 : P xs with
      | true =>
        have hp := Lib.hid hp0
        clear hp0
        go_wp2_with (go_at_fn f; refine HS.out _ _ _ _ hbB hm.out hi'.out ?_; intro w2 b2; rw [hp.out])
        exact H1.out _ _ _ (hb.trans (b2.mono hb.size)) hx.out hp.out hg.out
      | false =>
        have hp := Lib.hid hp0
        clear hp0
        have hg2 : Hid (∀ (t : Nat) ys, t < j + 1 → xss[t]? = some ys → P ys = false) := Lib.hid (fun t ys ht hy => by
          by_cases e : t < j
          · exact hg.out t ys e hy
          · obtain rfl : t = j := by omega
            rw [hx.out] at hy
            cases hy
            exact hp.out)
        go_wp2_with (go_at_fn f; refine HS.out _ _ _ _ hbB hm.out hi'.out ?_; intro w2 b2; rw [hp.out])
        go_roundg (gk - 1)
        case measure => omega
        case rel => exact ⟨hb.trans (b2.mono hb.size), j + 1, by go_num, hg2, by omega, by omega⟩
    · go_wp2_with fail
      exact H0.out _ hb (fun xs hxs => by
        obtain ⟨t, ht⟩ := List.getElem?_of_mem hxs
        have := (List.getElem?_eq_some_iff.1 ht).1
        exact hg.out t xs (by omega) ht)
end Go.Proofs.YtdjdagcgodpgdaaGreat
