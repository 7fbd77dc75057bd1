/-
  Part 6 of 8 of what the law FnSolids rests on.
-/
import Derived.Test.YtdjdagcgodpgdaaMo5
import Derived.Lib.SliceRun
import Derived.Shelf.Abstract
set_option maxRecDepth 20000
/- 'slices.IndexFunc' and 'slices.DeleteFunc' of lists of integers, with a closure that makes memory of its own and changes none. -/
set_option linter.unusedVariables false
namespace Go.Proofs.Ytdjdagcgodpgdaa
open Go.RowKit

/-- What a closure says of each list of xss, in whatever world that has the same memory below B. -/
def Says (f : Nat) (lb : Array Value) (B : Nat) (w0 : World) (xss : List (List Int)) (P : List Int → Bool) : Prop :=
  ∀ (wr : World) (u : Value) (xs : List Int) (Q : Ending → World → Prop), Below B w0 wr → xs ∈ xss → IntsAt wr u xs →
    (∀ w', Below wr.heap.size wr w' → Q (.returned (.bool (P xs))) w') → Calls Try.prog f (#[u] ++ lb) wr Q
theorem own_setCells {B : Nat} {T : TypeId} {g n cap : Nat} : ∀ (vs : List Value) (o : Nat) {w : World} {cur : List Value}, Own w B T (.slice (some ⟨g, 0, none⟩) n cap) cur →
    ∃ cur', Own (w.setCells g o vs) B T (.slice (some ⟨g, 0, none⟩) n cap) cur' ∧ cur'.take o = cur.take o ∧ w.grownBy (w.setCells g o vs) (some g)
  | [], o, w, cur, h => ⟨cur, h, rfl, ⟨rfl, rfl, rfl, Nat.le_refl _, fun _ _ _ => rfl⟩⟩
  | v :: vs, o, w, cur, h => by
    obtain ⟨cur', h1, h2, h3⟩ := own_setCells vs (o + 1) (h.set o v)
    refine ⟨cur', h1, ?_, grown_trans (grown_set w g o v) h3⟩
    have := congrArg (List.take o) h2
    rw [List.take_take, List.take_take, Nat.min_eq_left (by omega), List.take_set_of_le (Nat.le_refl _)] at this
    exact this
theorem Own.upto {w : World} {B : Nat} {T : TypeId} {g n cap k : Nat} {xs : List Value} (h : Own w B T (.slice (some ⟨g, 0, none⟩) n cap) xs) (hk : k ≤ n) : Own w B T (.slice (some ⟨g, 0, none⟩) k cap) (xs.take k) := by
  obtain rfl := h.len
  unfold Own at h ⊢
  rcases h.2 with ⟨he, _⟩ | ⟨g', cap', cur, he, hb, hgg, h1, h2, h3, h4⟩
  · cases he
  · simp only [Value.slice.injEq] at he
    obtain ⟨e1, _, rfl⟩ := he
    obtain rfl : g = g' := by simpa using e1
    rw [Nat.mul_one] at h3 h4
    refine ⟨by simp, .inr ⟨g, cap, cur, ?_, hb, hgg, ?_, h2, by omega, ?_⟩⟩
    · rw [List.length_take, Nat.min_eq_left hk]
    · rw [List.length_take]; omega
    · rw [List.length_take, Nat.min_eq_left hk, Nat.mul_one, ← h4, List.take_take, Nat.min_eq_left hk]
/-- What DeleteFunc has done at place j: the rows at the places 'is' stand at the head, those from j on where they stood. -/
structure DelInv (P : List Int → Bool) (xss : List (List Int)) (us : List Value) (j : Nat) (is : List Nat) (cur : List Value) : Prop where
  asc : is.Pairwise (· < ·)
  lt : ∀ i ∈ is, i < j
  sum : (is.map fun i => xss.getD i []) = (xss.take j).filter fun x => !P x
  len : cur.length = us.length
  low : ∀ t i : Nat, is[t]? = some i → cur[t]? = us[i]?
  high : ∀ t : Nat, j ≤ t → cur[t]? = us[t]?
  room : is.length < j
theorem DelInv.start {P : List Int → Bool} {xss : List (List Int)} {us : List Value} {k : Nat} {x : List Int} (hx : xss[k]? = some x) (hp : P x = true) (hb : ∀ (j : Nat) ys, j < k → xss[j]? = some ys → P ys = false) : DelInv P xss us (k + 1) (List.range k) us := by
  have hk : k < xss.length := (List.getElem?_eq_some_iff.1 hx).1
  refine ⟨List.pairwise_lt_range, fun i hi => by have := List.mem_range.1 hi; omega, ?_, rfl, ?_, fun _ _ => rfl, by simp⟩
  · rw [List.take_add_one, hx, List.filter_append]
    have h1 : (xss.take k).filter (fun x => !P x) = xss.take k := List.filter_eq_self.2 fun y hy => by
      obtain ⟨j, hj⟩ := List.getElem?_of_mem hy
      rw [List.getElem?_take] at hj
      split at hj
      · rename_i h
        rw [hb j y h hj]; rfl
      · cases hj
    rw [h1]
    simp [hp]
    apply List.ext_getElem?
    intro i
    by_cases h : i < k
    · rw [List.getElem?_map, List.getElem?_range h, List.getElem?_take, if_pos h]
      simp [List.getElem?_eq_getElem (show i < xss.length by omega)]
    · rw [List.getElem?_eq_none (by simp; omega), List.getElem?_eq_none (by simp; omega)]
  · intro t i ht
    have hl := (List.getElem?_eq_some_iff.1 ht).1
    rw [List.length_range] at hl
    rw [List.getElem?_range hl] at ht
    cases ht
    rfl
theorem DelInv.keep {P : List Int → Bool} {xss : List (List Int)} {us cur : List Value} {is : List Nat} {j : Nat} {x : List Int} {u : Value} (h : DelInv P xss us j is cur) (hx : xss[j]? = some x) (hu : us[j]? = some u) (hp : P x = false) : DelInv P xss us (j + 1) (is ++ [j]) (cur.set is.length u) := by
  have hl := (List.getElem?_eq_some_iff.1 hu).1
  have hr := h.room
  have hcl := h.len
  refine ⟨?_, ?_, ?_, by rw [List.length_set]; exact h.len, ?_, ?_, by rw [List.length_append, List.length_singleton]; omega⟩
  · rw [List.pairwise_append]
    refine ⟨h.asc, List.pairwise_singleton _ _, fun a ha b hb => ?_⟩
    rw [List.mem_singleton] at hb
    subst hb
    exact h.lt a ha
  · intro i hi
    rcases List.mem_append.1 hi with hi | hi
    · have := h.lt i hi; omega
    · rw [List.mem_singleton] at hi; omega
  · have := pick_step (f := fun x => !P x) h.sum hx
    rw [if_pos (by rw [hp]; rfl)] at this
    exact this
  · intro t i ht
    by_cases e : t < is.length
    · rw [List.getElem?_append_left e] at ht
      rw [List.getElem?_set_ne (by omega)]
      exact h.low t i ht
    · have h2 := (List.getElem?_eq_some_iff.1 ht).1
      rw [List.length_append, List.length_singleton] at h2
      obtain rfl : t = is.length := by omega
      rw [List.getElem?_append_right (Nat.le_refl _), Nat.sub_self] at ht
      cases ht
      rw [List.getElem?_set_self (by omega), hu]
  · intro t ht
    rw [List.getElem?_set_ne (by omega)]
    exact h.high t (by omega)
theorem DelInv.skip {P : List Int → Bool} {xss : List (List Int)} {us cur : List Value} {is : List Nat} {j : Nat} {x : List Int} (h : DelInv P xss us j is cur) (hx : xss[j]? = some x) (hp : P x = true) : DelInv P xss us (j + 1) is cur := by
  have hr := h.room
  refine ⟨h.asc, fun i hi => by have := h.lt i hi; omega, ?_, h.len, h.low, fun t ht => h.high t (by omega), by omega⟩
  have := pick_step (f := fun x => !P x) h.sum hx
  rw [if_neg (by rw [hp]; decide)] at this
  exact this
theorem DelInv.whole {P : List Int → Bool} {xss : List (List Int)} {us cur : List Value} {is : List Nat} {w : World} {B E : Nat} (h : DelInv P xss us xss.length is cur) (hr : Rows w B E us xss) : Rows w B E (cur.take is.length) (xss.filter fun x => !P x) := by
  have hp := hr.pick h.asc h.lt
  rw [h.sum, List.take_of_length_le (Nat.le_refl _)] at hp
  have e : (is.map fun i => us.getD i nilV) = cur.take is.length := by
    apply List.ext_getElem?
    intro t
    by_cases ht : t < is.length
    · have h1 := List.getElem?_eq_getElem ht
      have h2 := h.lt _ (List.getElem_mem ht)
      have hl := hr.1
      rw [List.getElem?_map, List.getElem?_take, if_pos ht, h.low t _ h1, h1]
      simp [List.getD, List.getElem?_eq_getElem (show is[t] < us.length by omega)]
    · rw [List.getElem?_eq_none (by simp; omega), List.getElem?_eq_none (by simp; omega)]
  rw [e] at hp
  exact hp
set_option maxHeartbeats 1000000 in
theorem findIf_c {f : Nat} {lb : Array Value} {P : List Int → Bool} (eg : ∀ args w, (callFunc f args).run Try.prog w = .ok (.enter f args) w) {va : Value} {xss : List (List Int)} {w : World} {Q : Ending → World → Prop} {B : Nat} (ha : RowsAt w va xss) (hB : B ≤ w.heap.size) (hs : Says f lb B w xss P)
    (h0 : ∀ w', Below w.heap.size w w' → (∀ xs ∈ xss, P xs = false) → Q (.returned (.int .i64 (-1))) w')
    (h1 : ∀ w' (k : Nat) xs, Below w.heap.size w w' → xss[k]? = some xs → P xs = true → (∀ (j : Nat) ys, j < k → xss[j]? = some ys → P ys = false) → Q (.returned (.int .i64 k)) w') :
    Calls Try.prog 90 #[va, .func (.func f) #[] lb] w Q := by
  have H0 := Lib.hid h0; clear h0
  have H1 := Lib.hid h1; clear h1
  have HS := Lib.hid hs; clear hs
  obtain ⟨aa, ca, rfl, la, lca, cca⟩ := ha.form
  go_enter Try.func90, Try.ntmps90
  go_wp2_with fail
  go_loopg [8] xss.length (fun g i wr => Below w.heap.size w wr ∧ ∃ j : Nat, i = .int .i64 j ∧ Hid (∀ (t : Nat) ys, t < j → xss[t]? = some ys → P ys = false) ∧ j + g ≤ xss.length ∧ xss.length ≤ j + g)
  case atStart => exact ⟨Below.refl _ _, 0, rfl, Lib.hid (fun t ys h => by omega), by omega, by omega⟩
  case round =>
    obtain ⟨hb, j, rfl, hg, hk1, hk2⟩ := hrel
    by_cases hj : j < xss.length
    · obtain ⟨b, off, u, xs, rfl, hx, hcw, hi⟩ := ha.cell hj
      have hc := below_cells hb _ _ hcw
      have i1 : (j : Int) < xss.length := by omega
      have hbB : Below B w wr := hb.mono hB
      have hi' := Lib.hid (hi.below hb)
      have hm := Lib.hid (List.mem_of_getElem? hx.out)
      clear hcw hi
      cases hp0 : P xs with
      | true =>
        have hp := Lib.hid hp0
        clear hp0
        go_wp2_with (go_at_fn f; refine HS.out _ _ _ _ hbB hm.out hi'.out ?_; intro w2 b2; rw [hp.out])
        exact H1.out _ _ _ (hb.trans (b2.mono hb.size)) hx.out hp.out hg.out
      | false =>
        have hp := Lib.hid hp0
        clear hp0
        have hg2 : Hid (∀ (t : Nat) ys, t < j + 1 → xss[t]? = some ys → P ys = false) := Lib.hid (fun t ys ht hy => by
          by_cases e : t < j
          · exact hg.out t ys e hy
          · obtain rfl : t = j := by omega
            rw [hx.out] at hy
            cases hy
            exact hp.out)
        go_wp2_with (go_at_fn f; refine HS.out _ _ _ _ hbB hm.out hi'.out ?_; intro w2 b2; rw [hp.out])
        go_roundg (gk - 1)
        case measure => omega
        case rel => exact ⟨hb.trans (b2.mono hb.size), j + 1, by go_num, hg2, by omega, by omega⟩
    · go_wp2_with fail
      exact H0.out _ hb (fun xs hxs => by
        obtain ⟨t, ht⟩ := List.getElem?_of_mem hxs
        have := (List.getElem?_eq_some_iff.1 ht).1
        exact hg.out t xs (by omega) ht)
end Go.Proofs.Ytdjdagcgodpgdaa
/- Sorting a slice of slices of integers: out of the library's contract. -/
set_option linter.unusedVariables false
namespace Go.Proofs.Ytdjdagcgodpgdaa
open Go.RowKit

theorem apart.symm {u v : Value} (h : apart u v) : apart v u := by
  unfold apart at h ⊢
  cases hv : v.ownBlock with
  | none => exact .inl rfl
  | some b =>
    refine .inr fun e => ?_
    rcases h with h | h
    · rw [h] at e; cases e
    · rw [hv] at h; exact h e.symm
/-- The rows in another order. -/
theorem Rows.perm {w : World} {B E : Nat} {us : List Value} {xss : List (List Int)} (h : Rows w B E us xss) {is : List Nat} (hp : is.Nodup) (hl : ∀ i ∈ is, i < xss.length) :
    Rows w B E (is.map fun i => us.getD i nilV) (is.map fun i => xss.getD i []) := by
  obtain ⟨h3, h4, h5⟩ := h
  refine ⟨by simp, fun k xs hk => ?_, fun i j z z' hij hz hz' => ?_⟩
  · rw [List.getElem?_map, Option.map_eq_some_iff] at hk
    obtain ⟨i, hi, rfl⟩ := hk
    have hil := hl i (List.mem_of_getElem? hi)
    obtain ⟨u, a, b, c⟩ := h4 i _ (List.getElem?_eq_getElem hil)
    have e : xss.getD i [] = xss[i] := by simp [List.getD, List.getElem?_eq_getElem hil]
    refine ⟨u, ?_, by rw [e]; exact b, c⟩
    rw [List.getElem?_map, hi]
    simp [List.getD, a]
  · rw [List.getElem?_map, Option.map_eq_some_iff] at hz hz'
    obtain ⟨a, ha, rfl⟩ := hz
    obtain ⟨b, hb, rfl⟩ := hz'
    have hal := hl a (List.mem_of_getElem? ha)
    have hbl := hl b (List.mem_of_getElem? hb)
    have hab : a ≠ b := by
      intro e
      subst e
      rw [List.nodup_iff_pairwise_ne, List.pairwise_iff_getElem] at hp
      obtain ⟨x1, e1⟩ := List.getElem?_eq_some_iff.1 ha
      obtain ⟨x2, e2⟩ := List.getElem?_eq_some_iff.1 hb
      exact hp i j x1 x2 hij (e1.trans e2.symm)
    have ga : us[a]? = some (us.getD a nilV) := by simp [List.getD, List.getElem?_eq_getElem (show a < us.length by omega)]
    have gb : us[b]? = some (us.getD b nilV) := by simp [List.getD, List.getElem?_eq_getElem (show b < us.length by omega)]
    by_cases h : a < b
    · exact h5 a b _ _ h ga gb
    · exact (h5 b a _ _ (by omega) gb ga).symm
theorem map_range_getD {α : Type} (l : List α) (d : α) : ((List.range l.length).map fun i => l.getD i d) = l := by
  apply List.ext_getElem?
  intro i
  by_cases h : i < l.length
  · rw [List.getElem?_map, List.getElem?_range h]
    simp [List.getD, List.getElem?_eq_getElem h]
  · rw [List.getElem?_eq_none (by simp; omega), List.getElem?_eq_none (by omega)]
def Words.Sorted (l : List (List Int)) : Prop := l.Pairwise fun a b => ¬ Words.cmpL b a < 0
theorem Words.cmpL_swo (xss : List (List Int)) : Go.Sort.SWO (α := Nat) (ltOf fun i j => Words.cmpL (xss.getD i []) (xss.getD j [])) where
  irrefl x := by
    show decide (Words.cmpL (xss.getD x []) (xss.getD x []) < 0) = false
    rw [Words.cmpL_self]; rfl
  trans x y z h1 h2 := by
    unfold ltOf at *
    simp only [decide_eq_true_eq] at *
    exact Words.cmpL_trans h1 h2
  ntrans x y z h1 h2 := by
    unfold ltOf at *
    simp only [decide_eq_false_iff_not] at *
    intro h3
    by_cases e : Words.cmpL (xss.getD x []) (xss.getD y []) = 0
    · rw [Words.cmpL_eq e] at h3
      exact h2 h3
    · have h4 : Words.cmpL (xss.getD y []) (xss.getD x []) < 0 := by rw [Words.cmpL_neg]; omega
      exact h2 (Words.cmpL_trans h4 h3)
theorem sorted_unique {a b : List (List Int)} (hp : a.Perm b) (ha : Words.Sorted a) (hb : Words.Sorted b) : a = b := by
  refine List.Perm.eq_of_pairwise (le := fun a b => ¬ Words.cmpL b a < 0) ?_ ha hb hp
  intro x y _ _ h1 h2
  rw [Words.cmpL_neg] at h1
  exact Words.cmpL_eq (by omega)
theorem heap_sortWorld {α : Type} [Inhabited α] (enc : α → Value) (w : World) (blk off m : Nat) (dk : Array α) (os : Array Obj) {k : Nat} (hk : k < w.heap.size) (hne : k ≠ blk) : (sortWorld enc w blk off m dk os).heap[k]? = w.heap[k]? := by
  unfold sortWorld
  rw [Go.Sort.heap_grow_old _ _ (by simp; exact hk)]
  unfold Go.Sort.putRow Go.Sort.mapBlock
  simp [Array.getElem?_modify, Ne.symm hne]
theorem below_sortWorld {α : Type} [Inhabited α] (enc : α → Value) {w : World} {B blk : Nat} (hB : B ≤ w.heap.size) (hb : B ≤ blk) (off m : Nat) (dk : Array α) (os : Array Obj) : Below B w (sortWorld enc w blk off m dk os) :=
  ⟨rfl, rfl, rfl, by unfold sortWorld; simp, fun k hk => heap_sortWorld enc w blk off m dk os (by omega) (by omega)⟩
theorem own_sortWorld {α : Type} [Inhabited α] (enc : α → Value) {w : World} {B g n cap : Nat} {T : TypeId} {vs : List Value} (h : Own w B T (.slice (some ⟨g, 0, none⟩) n cap) vs) (m : Nat) (dk : Array α) (os : Array Obj) (hs : dk.size = n) :
    Own (sortWorld enc w g 0 m dk os) B T (.slice (some ⟨g, 0, none⟩) n cap) (dk.toList.map enc) := by
  have hn := h.len
  unfold Own at h ⊢
  rcases h.2 with ⟨he, _⟩ | ⟨g', cap', cur, he, hb, hgg, h1, h2, h3, h4⟩
  · cases he
  · simp only [Value.slice.injEq] at he
    obtain ⟨e1, _, rfl⟩ := he
    obtain rfl : g = g' := by simpa using e1
    have hlt : g < w.heap.size := (Array.getElem?_eq_some_iff.1 hgg).1
    rw [Nat.mul_one] at h3 h4
    refine ⟨by simp, .inr ⟨g, cap, Go.Sort.putCells enc 0 dk cur, by simp [hs], hb, ?_, by simp; omega, h2, by simp [Go.Sort.putCells, h3], ?_⟩⟩
    · unfold sortWorld
      rw [Go.Sort.heap_grow_old _ _ (by simp; exact hlt)]
      unfold Go.Sort.putRow Go.Sort.mapBlock
      rw [Array.getElem?_modify]
      simp [Go.Sort.ahead, hgg, Go.Sort.onCells]
    · simp only [List.length_map, Array.length_toList, Nat.mul_one]
      apply List.ext_getElem?
      intro i
      by_cases hi : i < dk.size
      · rw [List.getElem?_take, if_pos hi, Array.getElem?_toList, List.getElem?_map, Array.getElem?_toList]
        unfold Go.Sort.putCells
        rw [Array.getElem?_mapIdx, Array.getElem?_eq_getElem (show i < cur.size by omega), Option.map_some, if_pos ⟨by omega, by omega⟩, Array.getElem?_eq_getElem hi, Option.map_some, Nat.sub_zero, getElem!_pos dk i hi]
      · rw [List.getElem?_eq_none (by simp; omega), List.getElem?_eq_none (by simp; omega)]
theorem sortRows_c {v : Value} {xss : List (List Int)} {w : World} {B E : Nat} {Q : Ending → World → Prop} (ho : OwnRows w B E v xss) (hB : B ≤ w.heap.size) (hn : 0 < xss.length) (hbig : xss.length ≤ 1048576)
    (hQ : ∀ w' yss, yss.Perm xss → Words.Sorted yss → OwnRows w' B w'.heap.size v yss → Below B w w' → Q (.returned (.tuple #[])) w') :
    Calls Try.prog 66 #[v, .func (.func 43) #[] #[]] w Q := by
  obtain ⟨us, o1, o2, o3⟩ := ho.parts
  obtain ⟨aa, ca, rfl, la, lca, cca⟩ := ho.form
  obtain ⟨g, rfl, hgB, hgl⟩ := Own.head o1 (by have := o3.1; omega)
  have hus := o3.1
  have hul := o1.len
  have one : OneCell fun i : Nat => us.getD i nilV := by
    intro i
    by_cases hi : i < us.length
    · obtain ⟨u, xs, hu, _, hou, _⟩ := o3.get (k := i) (by omega)
      obtain ⟨au, cu, rfl, _, _, _⟩ := Own.form hou
      have : us.getD i nilV = .slice au (ints xs).length cu := by simp [List.getD, hu.out]
      show (us.getD i nilV).oneCell' = true
      rw [this]; rfl
    · have : us.getD i nilV = nilV := by simp [List.getD, List.getElem?_eq_none (show us.length ≤ i by omega)]
      show (us.getD i nilV).oneCell' = true
      rw [this]; rfl
  have read : ∀ (m : Nat) (os : Array Obj) (dk : Array Nat) (i : Nat), IntsAt (sortWorld (fun i : Nat => us.getD i nilV) w g 0 m dk os) (us.getD i nilV) (xss.getD i []) := by
    intro m os dk i
    by_cases hi : i < us.length
    · obtain ⟨u, xs, hu, hx, hou, _⟩ := o3.get (k := i) (by omega)
      have e1 : us.getD i nilV = u := by simp [List.getD, hu.out]
      have e2 : xss.getD i [] = xs := by simp [List.getD, hx.out]
      rw [e1, e2]
      refine OwnInts.at (Own.kept (B := B) hou fun k hk => heap_sortWorld _ _ _ _ _ _ _ (Own.lt hou hk).2 ?_)
      rcases own_types o1 hou (by decide) with e | e
      · rw [e] at hk; cases hk
      · intro h; subst h; exact e hk
    · have e1 : us.getD i nilV = nilV := by simp [List.getD, List.getElem?_eq_none (show us.length ≤ i by omega)]
      have e2 : xss.getD i [] = [] := by simp [List.getD, List.getElem?_eq_none (show xss.length ≤ i by omega)]
      rw [e1, e2]
      exact ⟨none, 0, rfl, Nat.le_refl _, by unfold maxLen; omega, fun _ => rfl, fun k x h => by simp [ints] at h⟩
  have hcmp : CmpLays1 Try.prog 43 #[] (fun i : Nat => us.getD i nilV) (fun i j => Words.cmpL (xss.getD i []) (xss.getD j [])) g 0 xss.length w := by
    intro m os dk hs x y
    exact Compare_c (read m os dk x) (read m os dk y) ⟨rfl, 0, #[], by rw [Go.Sort.grow_empty]; rfl⟩
  have hH : Go.Sort.Holds (fun i : Nat => us.getD i nilV) w g 0 (Array.range xss.length) := by
    intro j hj
    rw [Array.size_range] at hj
    rw [Nat.zero_add, getElem!_pos _ j (by simpa using hj)]
    refine ⟨?_, o1.frozen j⟩
    rw [o1.cell (k := j) (x := us.getD j nilV) (by simp [List.getD, List.getElem?_eq_getElem (show j < us.length by omega)])]
    simp
  have hc := Any.slices_SortFunc Try.sortRows (fun i : Nat => us.getD i nilV) one (fun i j => Words.cmpL (xss.getD i []) (xss.getD j [])) (Words.cmpL_swo xss) 43 #[] g 0 ca (Array.range xss.length) w
    (fun args w => enters_of Try.func43 (by kernel_rfl) rfl args w) (by rw [Array.size_range]; exact hcmp) hH hgl (by rw [Array.size_range]; omega)
  rw [Array.size_range] at hc
  refine hc.mono ?_
  rintro e w' ⟨rfl, d', m, os, hp, hs, rfl⟩
  obtain ⟨hp1, hp2, hp3⟩ := hp
  rw [Array.size_range] at hp1
  have hpl : d'.toList.Perm (List.range xss.length) := by
    have h1 : d'.extract 0 xss.length = d' := by rw [← hp1]; simp
    have h2 : (Array.range xss.length).extract 0 xss.length = Array.range xss.length := by
      conv => lhs; arg 3; rw [← Array.size_range (n := xss.length)]
      simp
    rw [h1, h2] at hp3
    simpa using hp3
  have hnd : d'.toList.Nodup := hpl.nodup_iff.2 List.nodup_range
  have hlt : ∀ i ∈ d'.toList, i < xss.length := fun i hi => List.mem_range.1 (hpl.mem_iff.1 hi)
  refine hQ _ (d'.toList.map fun i => xss.getD i []) ?_ ?_ ?_ (below_sortWorld _ hB hgB _ _ _ _)
  · have := hpl.map fun i => xss.getD i []
    rwa [map_range_getD] at this
  · unfold Words.Sorted
    rw [List.pairwise_map, List.pairwise_iff_getElem]
    intro i j h1 h2 hij
    have := hs i j (Nat.zero_le _) hij (by simp at h2; omega)
    unfold ltOf at this
    rw [decide_eq_false_iff_not] at this
    rw [getElem!_pos d' i (by simpa using h1), getElem!_pos d' j (by simpa using h2)] at this
    simpa using this
  · have ow := own_sortWorld (fun i : Nat => us.getD i nilV) o1 m d' os hp1
    have rw1 : Rows (sortWorld (fun i : Nat => us.getD i nilV) w g 0 m d' os) B E us xss := by
      refine ⟨o3.1, fun k xs hk => ?_, o3.2.2⟩
      obtain ⟨u, a, b, c⟩ := o3.2.1 k xs hk
      refine ⟨u, a, Own.kept b fun q hq => heap_sortWorld _ _ _ _ _ _ _ (Own.lt b hq).2 ?_, c⟩
      rcases own_types o1 b (by decide) with e | e
      · rw [e] at hq; cases hq
      · intro h; subst h; exact e hq
    have rw2 := (rw1.perm hnd hlt).tight
    have := rw2.whole ow (Own.inBlk ow)
    exact this
end Go.Proofs.Ytdjdagcgodpgdaa
/- The values of an outer row, where rows may be shared; inserting a row. -/
set_option linter.unusedVariables false
namespace Go.Proofs.Ytdjdagcgodpgdaa
open Go.RowKit

/-- The values us are slices of integers of the call's own that hold xss. -/
def Vals (w : World) (B : Nat) (us : List Value) (xss : List (List Int)) : Prop :=
  us.length = xss.length ∧ ∀ (k : Nat) (xs : List Int), xss[k]? = some xs → ∃ u, us[k]? = some u ∧ OwnInts w B u xs
theorem Vals.below {w w' : World} {B : Nat} {us : List Value} {xss : List (List Int)} (h : Vals w B us xss) (hb : Below w.heap.size w w') : Vals w' B us xss :=
  ⟨h.1, fun k xs hk => by
    obtain ⟨u, a, b⟩ := h.2 k xs hk
    exact ⟨u, a, OwnInts.below b hb⟩⟩
theorem Vals.drawn {w w' : World} {B : Nat} {us : List Value} {xss : List (List Int)} (h : Vals w B us xss) (hd : Drawn w w') : Vals w' B us xss :=
  ⟨h.1, fun k xs hk => by
    obtain ⟨u, a, b⟩ := h.2 k xs hk
    exact ⟨u, a, OwnInts.drawn b hd⟩⟩
theorem Vals.outer {w w' : World} {B : Nat} {us : List Value} {xss : List (List Int)} (h : Vals w B us xss) {B' : Nat} {v : Value} {zs : List Value} (ho : Own w B' 38 v zs) (hg : w.grownBy w' v.ownBlock) : Vals w' B us xss :=
  ⟨h.1, fun k xs hk => by
    obtain ⟨u, a, b⟩ := h.2 k xs hk
    exact ⟨u, a, Own.grown b hg (own_types ho b (by decide))⟩⟩
theorem Vals.push {w : World} {B : Nat} {us : List Value} {xss : List (List Int)} (h : Vals w B us xss) {u : Value} {xs : List Int} (hu : OwnInts w B u xs) : Vals w B (us ++ [u]) (xss ++ [xs]) := by
  refine ⟨by simp [h.1], fun k zs hk => ?_⟩
  by_cases e : k < xss.length
  · rw [List.getElem?_append_left e] at hk
    obtain ⟨z, a, b⟩ := h.2 k zs hk
    exact ⟨z, by rw [List.getElem?_append_left (by have := h.1; omega)]; exact a, b⟩
  · have hk' := (List.getElem?_eq_some_iff.1 hk).1
    rw [List.length_append, List.length_singleton] at hk'
    obtain rfl : k = xss.length := by omega
    rw [List.getElem?_append_right (Nat.le_refl _), Nat.sub_self] at hk
    simp at hk
    subst hk
    exact ⟨u, by rw [← h.1, List.getElem?_append_right (Nat.le_refl _), Nat.sub_self]; rfl, hu⟩
theorem Vals.ints {w : World} {B : Nat} {us : List Value} {xss : List (List Int)} (h : Vals w B us xss) : ∀ (k : Nat) (xs : List Int), xss[k]? = some xs → ∃ u, us[k]? = some u ∧ IntsAt w u xs := fun k xs hk => by
  obtain ⟨u, a, b⟩ := h.2 k xs hk
  exact ⟨u, a, OwnInts.at b⟩
theorem Vals.at {w : World} {B B' : Nat} {v : Value} {us : List Value} {xss : List (List Int)} (h : Vals w B us xss) (ho : Own w B' 38 v us) : RowsAt w v xss := ⟨us, Own.row ho, h.1, h.ints⟩
theorem Rows.vals {w : World} {B E : Nat} {us : List Value} {xss : List (List Int)} (h : Rows w B E us xss) : Vals w B us xss := ⟨h.1, fun k xs hk => by
  obtain ⟨u, a, b, _⟩ := h.2.1 k xs hk
  exact ⟨u, a, b⟩⟩
theorem Rows.pw {us : List Value} : (∀ (i j : Nat) (u u' : Value), i < j → us[i]? = some u → us[j]? = some u' → apart u u') ↔ us.Pairwise apart := by
  rw [List.pairwise_iff_getElem]
  constructor
  · intro h i j hi hj hij
    exact h i j _ _ hij (List.getElem?_eq_getElem hi) (List.getElem?_eq_getElem hj)
  · intro h i j u u' hij hu hu'
    obtain ⟨h1, rfl⟩ := List.getElem?_eq_some_iff.1 hu
    obtain ⟨h2, rfl⟩ := List.getElem?_eq_some_iff.1 hu'
    exact h i j h1 h2 hij
theorem ins_get {α : Type} {l : List α} {x : α} {i k : Nat} (hi : i ≤ l.length) : ((l.take i ++ [x]) ++ l.drop i)[k]? = if k < i then l[k]? else if k = i then some x else l[k - 1]? := by
  rw [List.append_assoc, List.singleton_append]
  by_cases h1 : k < i
  · rw [if_pos h1, List.getElem?_append_left (by rw [List.length_take]; omega), List.getElem?_take, if_pos h1]
  · rw [if_neg h1, List.getElem?_append_right (by rw [List.length_take]; omega), List.length_take, Nat.min_eq_left hi]
    by_cases h2 : k = i
    · rw [if_pos h2, h2, Nat.sub_self, List.getElem?_cons_zero]
    · rw [if_neg h2]
      obtain ⟨d, hd⟩ : ∃ d, k - i = d + 1 := ⟨k - i - 1, by omega⟩
      rw [hd, List.getElem?_cons_succ, List.getElem?_drop]
      congr 1
      omega
/-- A new row put among the others. -/
theorem Rows.ins {w : World} {B E : Nat} {us : List Value} {xss : List (List Int)} (h : Rows w B E us xss) {u : Value} {xs : List Int} (hu : OwnInts w B u xs) (hf : ∀ b, u.ownBlock = some b → E ≤ b) {i : Nat} (hi : i ≤ xss.length) : Rows w B w.heap.size ((us.take i ++ [u]) ++ us.drop i) ((xss.take i ++ [xs]) ++ xss.drop i) := by
  have hp := h.push hu hf
  have hul := h.1
  refine ⟨by simp [hul], fun k zs hk => ?_, ?_⟩
  · rw [ins_get hi] at hk
    by_cases h1 : k < i
    · rw [if_pos h1] at hk
      obtain ⟨z, a, b, c⟩ := h.2.1 k zs hk
      exact ⟨z, by rw [ins_get (by omega), if_pos h1]; exact a, b, Own.inBlk b⟩
    · rw [if_neg h1] at hk
      by_cases h2 : k = i
      · rw [if_pos h2] at hk
        cases hk
        exact ⟨u, by rw [ins_get (by omega), if_neg h1, if_pos h2], hu, Own.inBlk hu⟩
      · rw [if_neg h2] at hk
        obtain ⟨z, a, b, c⟩ := h.2.1 _ zs hk
        exact ⟨z, by rw [ins_get (by omega), if_neg h1, if_neg h2]; exact a, b, Own.inBlk b⟩
  · rw [Rows.pw]
    have h3 := Rows.pw.1 hp.2.2
    refine (List.Perm.pairwise_iff (fun {x y} h => apart.symm h) ?_).1 h3
    have e : us ++ [u] = (us.take i ++ us.drop i) ++ [u] := by rw [List.take_append_drop]
    rw [e, List.append_assoc, List.append_assoc]
    exact List.Perm.append_left _ List.perm_append_comm
end Go.Proofs.Ytdjdagcgodpgdaa
/- The subsets of four points, as the reference lists them. -/
set_option linter.unusedVariables false
namespace Go.Proofs.Ytdjdagcgodpgdaa
open Go.RowKit

def Perms.subs : Nat → Nat → List (List Int)
  | 0, _ => [[]]
  | k + 1, a => (List.range (4 - a)).flatMap fun i => (Perms.subs k (a + i + 1)).map fun r => ((a + i : Nat) : Int) :: r
def Perms.subsTo (k a j : Nat) : List (List Int) := (List.range j).flatMap fun i => (Perms.subs k (a + i + 1)).map fun r => ((a + i : Nat) : Int) :: r
theorem Perms.subsTo_step (k a j : Nat) : Perms.subsTo k a (j + 1) = Perms.subsTo k a j ++ (Perms.subs k (a + j + 1)).map fun r => ((a + j : Nat) : Int) :: r := by
  unfold Perms.subsTo
  rw [List.range_succ, List.flatMap_append]
  simp
theorem Perms.subs_small : ∀ k ∈ List.range 3, ∀ a ∈ List.range 7, (Perms.subs k a).length ≤ 16 ∧ ∀ r ∈ Perms.subs k a, r.length = k := by decide +kernel
theorem Perms.subsTo_small : ∀ k ∈ List.range 2, ∀ a ∈ List.range 6, ∀ j ∈ List.range 5, a + j ≤ 4 → (Perms.subsTo k a j).length ≤ 16 := by decide +kernel
theorem own_int_one (w : World) (x : Int) : OwnInts (w.alloc (.cells #[.int .i64 x] 3)) w.heap.size (.slice (some ⟨w.heap.size, 0, none⟩) 1 1) [x] :=
  World.ownsRow_lit (size := 1) w #[.int .i64 x] 1 (Nat.le_refl _) (by unfold maxLen; omega) rfl
def SubsAt (k : Nat) : Prop := ∀ (a : Nat) (w : World) (Q : Ending → World → Prop), a ≤ 5 → (∀ v w', OwnRows w' w.heap.size w'.heap.size v (Perms.subs k a) → Below w.heap.size w w' → Q (.returned v) w') → Calls Try.prog 109 #[.int .i64 a, .int .i64 4, .int .i64 k] w Q
set_option maxHeartbeats 800000 in
theorem subs_zero : SubsAt 0 := by
  intro a w Q ha hQ
  have H := Lib.hid hQ; clear hQ
  have o0 := own_empty w
  have b0 := below_alloc w (.cells #[] 3)
  have r0 := own_rows_one (OwnInts.mono o0 (Nat.le_refl _)) b0.size
  have b1 := b0.alloc b0.size (.cells #[.slice (some ⟨w.heap.size, 0, none⟩) 0 0] 38)
  have h2 := H.out _ _ r0.tight b1
  rw [World.size_alloc] at h2
  have h3 := Lib.hid h2
  clear h2 r0
  show Calls Try.prog 109 #[.int .i64 a, .int .i64 4, .int .i64 0] w Q
  go_enter Try.func109, Try.ntmps109
  go_wp2_with fail
  exact h3.out
set_option maxHeartbeats 3200000 in
theorem subs_succ {k : Nat} (hk : k ≤ 1) (ih : SubsAt k) : SubsAt (k + 1) := by
  intro a w Q ha hQ
  have H := Lib.hid hQ; clear hQ
  have IH := Lib.hid ih; clear ih
  have hk1 : ((k + 1 : Nat) : Int) - 1 = (k : Int) := by omega
  have hk0 : (((k + 1 : Nat) : Int) == 0) = false := by rw [beq_eq_false_iff_ne]; omega
  obtain ⟨kk, hkk⟩ : ∃ kk : Int, kk = ((k + 1 : Nat) : Int) := ⟨_, rfl⟩
  rw [← hkk] at hk1 hk0 ⊢
  clear hkk
  go_enter Try.func109, Try.ntmps109
  go_wp2_with fail
  have o0 := own_outer_empty w
  have b0 := below_alloc w (.cells #[] 38)
  have r0 := Lib.hid (Rows.nil (w.alloc (.cells #[] 38)) w.heap.size (w.alloc (.cells #[] 38)).heap.size)
  go_loopg [7, 8] (4 - a) (fun gg u7 u8 wr => ∃ (j go n cap : Nat) (us : List Value), u8 = .int .i64 ((a + j : Nat) : Int) ∧ u7 = .slice (some ⟨go, 0, none⟩) n cap ∧ Own wr w.heap.size 38 (.slice (some ⟨go, 0, none⟩) n cap) us ∧ Hid (Rows wr w.heap.size wr.heap.size us (Perms.subsTo k a j)) ∧ Below w.heap.size w wr ∧ j + gg ≤ 4 - a ∧ 4 - a ≤ j + gg)
  case atStart => exact ⟨0, w.heap.size, 0, 0, [], by simp, rfl, o0, r0, b0, by omega, by omega⟩
  case round =>
    obtain ⟨j, go, n, cap, us, rfl, rfl, oj, rj, bj, hm1, hm2⟩ := hrel
    obtain ⟨gk1, hgk1⟩ : ∃ g, g = gk := ⟨_, rfl⟩
    obtain ⟨aj, haj⟩ : ∃ aj : Nat, aj = a + j := ⟨_, rfl⟩
    rw [← haj]
    have haj1 : aj ≤ a + j ∧ a + j ≤ aj := by omega
    have haj' := Lib.hid haj
    clear haj
    by_cases hj : j < 4 - a
    · have hjI : (aj : Int) < 4 := by omega
      have hst := Lib.hid (Perms.subsTo_step k a j)
      have hrs := Perms.subs_small k (List.mem_range.2 (by omega)) (aj + 1) (List.mem_range.2 (by omega))
      have hts := Perms.subsTo_small k (List.mem_range.2 (by omega)) a (List.mem_range.2 (by omega)) j (List.mem_range.2 (by omega)) (by omega)
      have hj4 : j + a < 4 := by omega
      obtain ⟨hrs1, hrs2⟩ := hrs
      have hrs2' := Lib.hid hrs2
      clear hrs2
      have hgo := (Own.lt oj rfl)
      go_wp2_with fail
      refine IH.out (aj + 1) wr _ (by omega) ?_
      intro v2 w2 o2 b2
      obtain ⟨R, hR⟩ : ∃ R, R = Perms.subs k (aj + 1) := ⟨_, rfl⟩
      rw [← hR] at o2 hrs1 hrs2'
      have hR' := Lib.hid hR
      clear hR
      obtain ⟨aR, cR, rfl, _, _, _⟩ := o2.form
      have bj2 := bj.trans (b2.mono bj.size)
      have oj2 := Own.below oj b2
      have rj2 := Lib.hid ((rj.out.below b2).tight)
      have rj3 : Hid (Rows w2 w.heap.size w2.heap.size us (Perms.subsTo k a j ++ (R.take 0).map fun r => ((aj : Nat) : Int) :: r)) := Lib.hid (by rw [List.take_zero, List.map_nil, List.append_nil]; exact rj2.out)
      have o2' := Lib.hid o2
      have hsz2 := b2.size
      obtain ⟨WR0, hWR0⟩ : ∃ z, z = wr.heap.size := ⟨_, rfl⟩
      obtain ⟨W2, hW2⟩ : ∃ z, z = w2.heap.size := ⟨_, rfl⟩
      rw [← hWR0, ← hW2] at o2'
      have hgo2 : go < WR0 ∨ W2 ≤ go := .inl (by omega)
      have hs22 : W2 ≤ w2.heap.size := by omega
      clear o2 rj2 hWR0 hW2
      go_wp2_with fail
      go_loopg [7, 29] R.length (fun gg u7 u29 wr2 => ∃ (t go n cap : Nat) (us : List Value), u29 = .int .i64 t ∧ u7 = .slice (some ⟨go, 0, none⟩) n cap ∧ Own wr2 w.heap.size 38 (.slice (some ⟨go, 0, none⟩) n cap) us ∧ Hid (Rows wr2 w.heap.size wr2.heap.size us (Perms.subsTo k a j ++ (R.take t).map fun r => ((aj : Nat) : Int) :: r)) ∧ Hid (OwnRows wr2 WR0 W2 (.slice aR R.length cR) R) ∧ (go < WR0 ∨ W2 ≤ go) ∧ Below w.heap.size w wr2 ∧ W2 ≤ wr2.heap.size ∧ t + gg ≤ R.length ∧ R.length ≤ t + gg)
      case atStart => exact ⟨0, go, n, cap, us, rfl, rfl, oj2, rj3, o2', hgo2, bj2, hs22, by omega, by omega⟩
      case round =>
        obtain ⟨t, go, n, cap, us, rfl, rfl, oj, rj, oR, hgo, bj, hs2, ht1, ht2⟩ := hrel
        by_cases ht : t < R.length
        · have htI : (t : Int) < R.length := by omega
          obtain ⟨b7, f7, u, x, e7, hx, hcx, hux⟩ := oR.out.at.cell ht
          subst e7
          obtain ⟨ax, cx, rfl, _, _, _⟩ := hux.form
          have hux' := Lib.hid hux
          have hxl := hrs2'.out x (List.mem_of_getElem? hx.out)
          have hxl2 : x.length ≤ 2 := by omega
          have hul : us.length ≤ 40 := by
            rw [rj.out.1, List.length_append, List.length_map, List.length_take]
            omega
          clear hxl hux
          have hst3 : Hid (Perms.subsTo k a j ++ (R.take (t + 1)).map (fun r => ((aj : Nat) : Int) :: r) = (Perms.subsTo k a j ++ (R.take t).map fun r => ((aj : Nat) : Int) :: r) ++ [(aj : Int) :: x]) := Lib.hid (by
            rw [List.take_add_one, hx.out, List.map_append, List.append_assoc]; rfl)
          have hx9 := Lib.hid (hux'.out.below (below_alloc wr (.cells #[.int .i64 (aj : Int)] 3)))
          have hB9 : w.heap.size ≤ wr.heap.size := bj.size
          go_wp2_with (first
            | (at_builtin; refine app_ints rfl (.tmp 35) (.tmp 36) rfl rfl (own_int_one wr (aj : Int)) rfl hx9.out (by show 1 + x.length ≤ 17592186044416; omega) (by simp) ?_; intro v4 w4 o4 g4; change World.grownBy _ w4 (some wr.heap.size) at g4; obtain ⟨y4, hy4⟩ : ∃ y4, y4 = [(aj : Int)] ++ x := ⟨_, rfl⟩; rw [← hy4] at o4; have hy4' := Lib.hid hy4; clear hy4; obtain ⟨ao4, ca4, rfl, la4, lc4, cc4⟩ := Own.form o4; have b4 : Below wr.heap.size wr w4 := (below_alloc wr _).grown g4 (by simp) (by intro k hk; cases hk; exact Nat.le_refl _); have hou4 := Own.below (Own.below oj b4) (below_alloc w4 (.cells #[.slice ao4 (ints y4).length ca4] 38)); have bw4 : w.heap.size ≤ w4.heap.size := Nat.le_trans bj.size b4.size)
            | (at_builtin; refine app_val rfl (.tmp 33) (.tmp 38) rfl rfl hou4 rfl (cell_new _ _ _) rfl (by omega) (by simp; omega) ?_; intro go5 cap5 w5 o5 g5 n5))
          have b45 := b4.alloc b4.size (.cells #[.slice ao4 (ints y4).length ca4] 38)
          have bw5 := (bj.trans (b45.mono bj.size)).grown g5 (by simp; omega) (fun b hb => by cases hb; exact (Own.lt hou4 rfl).1)
          have hs5 := g5.size
          have hs4 := b4.size
          simp at hs5
          have hr4 := (rj.out.below b45).push (xs := y4) (OwnInts.mono (OwnInts.below o4 (below_alloc w4 _)) bj.size) (fun b hb => (Own.lt o4 hb).1)
          rw [hy4'.out] at hr4
          change Rows _ _ _ _ (_ ++ [(aj : Int) :: x]) at hr4
          rw [← hst3.out, ← hy4'.out] at hr4
          have hr5 := Lib.hid ((hr4.outer hou4 g5).tight)
          have hR5 := Lib.hid ((oR.out.below b45).kept (w' := w5) (fun k h1 h2 h3 => g5.block k h3 (fun e => by cases e; omega)))
          have hgo5 : go5 < WR0 ∨ W2 ≤ go5 := by
            rcases n5 with h | h
            · rw [h]; exact hgo
            · right; simp at h; omega
          have hs25 : W2 ≤ w5.heap.size := by omega
          clear hr4
          go_roundg (gk - 1)
          case measure => omega
          case rel => exact ⟨t + 1, go5, _, cap5, _, by go_num, rfl, o5, hr5, hR5, hgo5, bw5, hs25, by omega, by omega⟩
        · have hte : t = R.length := by omega
          have hrj : Hid (Rows wr w.heap.size wr.heap.size us (Perms.subsTo k a (j + 1))) := Lib.hid (by
            have h := rj.out
            rw [hte, List.take_length, hR'.out, haj'.out] at h
            rw [hst.out]
            exact h)
          go_wp2_with fail
          go_roundg (gk1 - 1)
          case measure => omega
          case rel => exact ⟨j + 1, go, n, cap, us, by go_num, rfl, oj, hrj, bj, by omega, by omega⟩
    · have hje : j = 4 - a := by omega
      have how := Lib.hid (rj.out.whole oj (Own.inBlk oj))
      have hQ2 : Hid (Q (.returned (.slice (some ⟨go, 0, none⟩) n cap)) wr) := Lib.hid (H.out _ wr (by
        have h := how.out
        rw [hje] at h
        exact h) bj)
      go_wp2_with fail
      exact hQ2.out
theorem subs_two : SubsAt 2 := subs_succ (k := 1) (by omega) (subs_succ (k := 0) (by omega) subs_zero)
end Go.Proofs.Ytdjdagcgodpgdaa
/- Inserting into an ascending list. No program in sight. -/
set_option linter.unusedVariables false
namespace Go.Proofs.Ytdjdagcgodpgdaa.Perms

def ins (l : List (List Int)) (x : List Int) : List (List Int) := l.takeWhile (fun y => decide (Words.cmpL y x < 0)) ++ x :: l.dropWhile (fun y => decide (Words.cmpL y x < 0))
def isort (l : List (List Int)) : List (List Int) := l.foldl ins []
theorem isort_snoc (l : List (List Int)) (x : List Int) : isort (l ++ [x]) = ins (isort l) x := by unfold isort; rw [List.foldl_append]; rfl
theorem isort_take {l : List (List Int)} {j : Nat} {x : List Int} (a : List (List Int)) (h : l[j]? = some x) : isort (a ++ l.take (j + 1)) = ins (isort (a ++ l.take j)) x := by
  rw [List.take_add_one, h, ← isort_snoc, List.append_assoc]; rfl
theorem ins_perm (l : List (List Int)) (x : List Int) : (ins l x).Perm (x :: l) := by
  unfold ins
  have h := List.perm_middle (a := x) (l₁ := l.takeWhile fun y => decide (Words.cmpL y x < 0)) (l₂ := l.dropWhile fun y => decide (Words.cmpL y x < 0))
  rw [List.takeWhile_append_dropWhile] at h
  exact h
theorem isort_perm0 : ∀ (l a : List (List Int)), (l.foldl ins a).Perm (a ++ l)
  | [], a => by simp
  | x :: l, a => by
    have h := isort_perm0 l (ins a x)
    refine h.trans ?_
    refine ((ins_perm a x).append_right l).trans ?_
    exact (List.perm_middle).symm
theorem isort_perm (l : List (List Int)) : (isort l).Perm l := by
  have := isort_perm0 l []
  rw [List.nil_append] at this
  exact this
theorem isort_len (l : List (List Int)) : (isort l).length = l.length := (isort_perm l).length_eq
theorem not_lt_trans {x y z : List Int} (h1 : ¬ Words.cmpL x y < 0) (h2 : ¬ Words.cmpL y z < 0) : ¬ Words.cmpL x z < 0 := by
  intro h3
  by_cases e : Words.cmpL x y = 0
  · rw [Words.cmpL_eq e] at h3
    exact h2 h3
  · have h4 : Words.cmpL y x < 0 := by rw [Words.cmpL_neg]; omega
    exact h2 (Words.cmpL_trans h4 h3)
theorem ins_sorted {l : List (List Int)} {x : List Int} (h : Words.Sorted l) : Words.Sorted (ins l x) := by
  unfold ins Words.Sorted at *
  have h0 : (l.takeWhile (fun y => decide (Words.cmpL y x < 0)) ++ l.dropWhile (fun y => decide (Words.cmpL y x < 0))).Pairwise fun a b => ¬ Words.cmpL b a < 0 := by rw [List.takeWhile_append_dropWhile]; exact h
  rw [List.pairwise_append] at h0
  obtain ⟨h1, h2, h3⟩ := h0
  have htw : ∀ y ∈ l.takeWhile (fun y => decide (Words.cmpL y x < 0)), Words.cmpL y x < 0 := fun y hy => of_decide_eq_true (List.all_eq_true.1 List.all_takeWhile y hy)
  have hdw : ∀ y ∈ l.dropWhile (fun y => decide (Words.cmpL y x < 0)), ¬ Words.cmpL y x < 0 := by
    cases hd : l.dropWhile (fun y => decide (Words.cmpL y x < 0)) with
    | nil => intro y hy; cases hy
    | cons z zs =>
      have hz : ¬ Words.cmpL z x < 0 := by
        have hne : l.dropWhile (fun y => decide (Words.cmpL y x < 0)) ≠ [] := by rw [hd]; simp
        have := List.head_dropWhile_not (fun y => decide (Words.cmpL y x < 0)) hne
        simp [hd] at this
        omega
      rw [hd, List.pairwise_cons] at h2
      intro y hy
      rcases List.mem_cons.1 hy with rfl | hy
      · exact hz
      · exact not_lt_trans (h2.1 y hy) hz
  rw [List.pairwise_append, List.pairwise_cons]
  refine ⟨h1, ⟨hdw, h2⟩, fun a ha b hb => ?_⟩
  rcases List.mem_cons.1 hb with rfl | hb
  · have := htw a ha
    rw [Words.cmpL_neg]; omega
  · exact h3 a ha b hb
theorem isort_sorted0 : ∀ (l a : List (List Int)), Words.Sorted a → Words.Sorted (l.foldl ins a)
  | [], a, h => h
  | x :: l, a, h => isort_sorted0 l (ins a x) (ins_sorted h)
theorem isort_sorted (l : List (List Int)) : Words.Sorted (isort l) := isort_sorted0 l [] List.Pairwise.nil
/-- Where the first element stands that is not less. -/
theorem ins_at {l : List (List Int)} {x : List Int} {i : Nat} (hi : i ≤ l.length) (h1 : ∀ (t : Nat) y, t < i → l[t]? = some y → Words.cmpL y x < 0) (h2 : ∀ y, l[i]? = some y → ¬ Words.cmpL y x < 0) : ins l x = l.take i ++ x :: l.drop i := by
  have e : l.takeWhile (fun y => decide (Words.cmpL y x < 0)) = l.take i := by
    conv => lhs; rw [← List.take_append_drop i l]
    rw [List.takeWhile_append_of_pos]
    · cases hd : l.drop i with
      | nil => simp
      | cons z zs =>
        have hz := h2 z (by have := congrArg List.head? hd; rw [List.head?_drop] at this; exact this)
        simp [hz]
    · intro y hy
      obtain ⟨t, ht⟩ := List.getElem?_of_mem hy
      rw [List.getElem?_take] at ht
      split at ht
      · rename_i h
        exact decide_eq_true (h1 t y h ht)
      · cases ht
  unfold ins
  have e2 : l.dropWhile (fun y => decide (Words.cmpL y x < 0)) = l.drop i := by
    have h := List.takeWhile_append_dropWhile (p := fun y => decide (Words.cmpL y x < 0)) (l := l)
    rw [e] at h
    have h3 : l.take i ++ l.dropWhile (fun y => decide (Words.cmpL y x < 0)) = l.take i ++ l.drop i := by rw [h, List.take_append_drop]
    exact List.append_cancel_left h3
  rw [e, e2]
end Go.Proofs.Ytdjdagcgodpgdaa.Perms
/- The group that some permutations make, element by element. No program in sight. -/
set_option linter.unusedVariables false
namespace Go.Proofs.Ytdjdagcgodpgdaa.Perms

/-- A list of n points out of n. -/
def inR (n : Nat) (p : List Int) : Prop := p.length = n ∧ ∀ x ∈ p, 0 ≤ x ∧ x < n
theorem inR_iota (n : Nat) : inR n (iota n) := ⟨iota_len n, fun x hx => by
  unfold iota at hx
  obtain ⟨k, hk, rfl⟩ := List.mem_map.1 hx
  have := List.mem_range.1 hk
  omega⟩
theorem inR_comp {n : Nat} {p q : List Int} (hp : inR n p) (hq : inR n q) : inR n (comp p q) := by
  refine ⟨by rw [comp_len]; exact hp.1, fun x hx => ?_⟩
  unfold comp at hx
  obtain ⟨y, hy, rfl⟩ := List.mem_map.1 hx
  have h := hp.2 y hy
  have hl : y.toNat < q.length := by rw [hq.1]; omega
  have : q.getD y.toNat 0 = q[y.toNat] := by simp [List.getD, List.getElem?_eq_getElem hl]
  rw [this]
  exact hq.2 _ (List.getElem_mem hl)
theorem permB_inR {p : List Int} (h : permB p = true) : inR p.length p := ⟨rfl, permB_range h⟩
/-- One product: it is there already; or there is no room; or it is the next one. -/
def stepG (o : Option (List (List Int))) (q : List Int) : Option (List (List Int)) := o.bind fun out => if q ∈ out then some out else if out.length = 120 then none else some (out ++ [q])
def rowTo (gens : List (List Int)) (p : List Int) (out : List (List Int)) (t : Nat) : Option (List (List Int)) := (gens.take t).foldl (fun o s => stepG o (comp p s)) (some out)
def bfs (gens : List (List Int)) : Nat → Nat → List (List Int) → Option (List (List Int))
  | 0, _, out => some out
  | f + 1, a, out => match out[a]? with
    | none => some out
    | some p => (rowTo gens p out gens.length).bind (bfs gens f (a + 1))
def gokB (n : Int) (gens : List (List Int)) : Bool := decide (1 ≤ n ∧ n ≤ 10) && gens.all fun p => permB p && decide ((p.length : Int) = n)
def gofO (n : Int) (gens : List (List Int)) : Option (List (List Int)) := if gokB n gens = true then bfs gens 121 0 [iota n.toNat] else none
def gofW (n : Int) (gens : List (List Int)) : List (List Int) := ((gofO n gens).map isort).getD []
def gofB (n : Int) (gens : List (List Int)) : Bool := (gofO n gens).isSome
theorem foldl_none (p : List Int) : ∀ l : List (List Int), l.foldl (fun o s => stepG o (comp p s)) none = none
  | [] => rfl
  | s :: l => foldl_none p l
theorem rowTo_step {gens : List (List Int)} {p s : List Int} {out : List (List Int)} {t : Nat} (hs : gens[t]? = some s) : rowTo gens p out (t + 1) = stepG (rowTo gens p out t) (comp p s) := by
  unfold rowTo
  rw [List.take_add_one, hs, List.foldl_append]
  rfl
theorem rowTo_none {gens : List (List Int)} {p : List Int} {out : List (List Int)} {t : Nat} (h : rowTo gens p out t = none) : rowTo gens p out gens.length = none := by
  unfold rowTo at h ⊢
  have e : gens.take gens.length = gens.take t ++ gens.drop t := by rw [List.take_length, List.take_append_drop]
  rw [e, List.foldl_append, h, foldl_none]
theorem bfs_row {gens out : List (List Int)} {p : List Int} {f a : Nat} (h : out[a]? = some p) : bfs gens (f + 1) a out = (rowTo gens p out gens.length).bind (bfs gens f (a + 1)) := by
  simp only [bfs]
  rw [h]
theorem bfs_end {gens out : List (List Int)} {f a : Nat} (h : out.length ≤ a) : bfs gens (f + 1) a out = some out := by
  simp only [bfs]
  rw [List.getElem?_eq_none h]
/-- What holds of the list all the way. -/
structure GofInv (n : Nat) (out : List (List Int)) : Prop where
  nd : out.Nodup
  rg : ∀ p ∈ out, inR n p
  le : out.length ≤ 120
theorem GofInv.start {n : Nat} : GofInv n [iota n] := ⟨by simp, fun p hp => by rw [List.mem_singleton] at hp; rw [hp]; exact inR_iota n, by simp⟩
theorem GofInv.add {n : Nat} {out : List (List Int)} {q : List Int} (h : GofInv n out) (hq : inR n q) (hm : q ∉ out) (hl : out.length ≠ 120) : GofInv n (out ++ [q]) := by
  refine ⟨?_, fun p hp => ?_, ?_⟩
  · rw [List.nodup_append]
    refine ⟨h.nd, by simp, fun a ha b hb e => ?_⟩
    rw [List.mem_singleton] at hb
    subst e; subst hb
    exact hm ha
  · rcases List.mem_append.1 hp with hp | hp
    · exact h.rg p hp
    · rw [List.mem_singleton] at hp; rw [hp]; exact hq
  · have := h.le
    rw [List.length_append, List.length_singleton]
    omega
theorem gok_parts {n : Int} {gens : List (List Int)} (h : gokB n gens = true) : 1 ≤ n ∧ n ≤ 10 ∧ ∀ p ∈ gens, permB p = true ∧ (p.length : Int) = n := by
  unfold gokB at h
  simp only [Bool.and_eq_true, decide_eq_true_eq, List.all_eq_true] at h
  exact ⟨h.1.1, h.1.2, h.2⟩
theorem gok_inR {n : Nat} {gens : List (List Int)} (h : gokB n gens = true) : ∀ p ∈ gens, inR n p := fun p hp => by
  obtain ⟨_, _, h3⟩ := gok_parts h
  obtain ⟨h4, h5⟩ := h3 p hp
  have e : p.length = n := by omega
  have := permB_inR h4
  rwa [e] at this
/-- Of a list without repetitions the sorted one ascends strictly. -/
theorem isort_asc {l : List (List Int)} (h : l.Nodup) : Asc (isort l) := by
  rw [Asc.pairwise]
  have h1 := isort_sorted l
  have h2 : (isort l).Nodup := (isort_perm l).nodup_iff.2 h
  rw [List.nodup_iff_pairwise_ne] at h2
  unfold Words.Sorted at h1
  refine (List.pairwise_and_iff.2 ⟨h1, h2⟩).imp ?_
  rintro a b ⟨h3, h4⟩
  have h5 := Words.cmpL_neg a b
  by_cases e : Words.cmpL a b = 0
  · exact absurd (Words.cmpL_eq e) h4
  · omega
theorem isort_mem {l : List (List Int)} {x : List Int} : x ∈ isort l ↔ x ∈ l := (isort_perm l).mem_iff
end Go.Proofs.Ytdjdagcgodpgdaa.Perms
/- The image of a subset, as the reference finds it. -/
set_option linter.unusedVariables false
namespace Go.Proofs.Ytdjdagcgodpgdaa
open Go.RowKit

/-- 'append(s, x)' of one integer, with what is known of the new block. -/
theorem app_int_val {w : World} {ops : Array Oper} {rest : List Oper} {o : Oper} {a : Act} {Q : Exit → Act → World → Prop} (hg : o.guard = none) (s x : Operand) (hop : o.op = .call { callee := .builtin .append, args := #[s, x], argTypes := #[38, 38] })
    {B g n cap : Nat} {u : Value} {us : List Value} (hs : a.eval s = .slice (some ⟨g, 0, none⟩) n cap) (hown : Own w B 3 (.slice (some ⟨g, 0, none⟩) n cap) us) {ad : Addr} {c : Nat} (hx : a.eval x = .slice (some ad) 1 c) (hu : w.cell? ad = some u)
    (h1 : u.oneCell' = true) (hn : us.length + 1 ≤ 1099511627776) (hB : B ≤ w.heap.size)
    (hK : ∀ g' cap' w', Own w' B 3 (.slice (some ⟨g', 0, none⟩) (n + 1) cap') (us ++ [u]) → w.grownBy w' (some g) → (g' = g ∨ w.heap.size ≤ g') → wpList Try.prog ops Q rest (a.put o.dst (.slice (some ⟨g', 0, none⟩) (n + 1) cap')) w') :
    wpList Try.prog ops Q (o :: rest) a w := by
  obtain ⟨i0, hi, hz0, hz1, hz2⟩ := info_parts Try.infoInt
  obtain rfl := hown.len
  have hc1 : ∀ (j : Nat) (y : Value), [u][j]? = some y → w.cell? (ad.add j) = some y := by
    intro j y hy
    match j, hy with
    | 0, hy =>
      simp at hy; subst hy
      have : ad.add 0 = ad := by unfold Addr.add; split <;> simp_all
      rw [this]; exact hu
  have ho1 : ∀ y ∈ [u], y.oneCell' = true := by intro y hy; simp at hy; subst hy; exact h1
  by_cases hr : us.length + 1 ≤ cap
  · refine wpList_append_own_spare w hg s x 38 hop B 3 i0 1 Try.underlying38 hi hz1 g us.length cap us hs hown ad 1 c [u] hx rfl hc1 ho1 hr ?_
    intro w' h2 h3
    have e : (us ++ [u]).length = us.length + 1 := by simp
    exact hK g cap w' (by unfold Own; rw [e]; exact h2) h3 (.inl rfl)
  · refine wpList_append_arg w hg s x 38 hop 3 i0 (.int .i64 0) 1 8 Try.underlying38 hi hz0 hz1 hz2 rfl (by decide) g 0 us.length cap us hs (by simp) (fun j y hy => by rw [Nat.zero_add]; exact hown.cell hy) ad 1 c [u] hx rfl hc1 ho1
      (fun h => absurd h hr) (by unfold maxLen; omega) (by omega) (fun h => absurd h hr) ?_
    intro _ v' w' h2 h3
    have h2' : Own w' w.heap.size 3 v' (us ++ [u]) := by unfold Own; rw [List.length_append]; exact h2
    obtain ⟨ao, c', rfl, _, _, _⟩ := Own.form h2'
    obtain ⟨g', rfl, hg1, hg2⟩ := h2'.head (by simp)
    have e : (us ++ [u]).length = us.length + 1 := by simp
    rw [e] at h2'
    have h4 := hK g' c' w' (h2'.mono hB) ⟨h3.os, h3.tape, h3.output, h3.size, fun k hk _ => h3.block k hk (by simp)⟩ (.inr hg1)
    rw [e]
    exact h4
theorem BoolsIn.grown {w w' : World} {b n : Nat} {T : TypeId} {P : Nat → Bool} (h : BoolsIn w b T n P) {row : Option Nat} (hg : w.grownBy w' row) (hr : row ≠ some b) : BoolsIn w' b T n P := by
  obtain ⟨arr, h1, h2, h3⟩ := h
  exact ⟨arr, by rw [hg.block b (Array.getElem?_eq_some_iff.1 h1).1 (fun e => hr e.symm)]; exact h1, h2, h3⟩
/-- The points to which the points of l are carried, in order. -/
def Perms.img (p l : List Int) : List Int := l.map fun a => p.getD a.toNat 0
def Perms.imgTo (p l : List Int) (j : Nat) : List Int := ((List.range j).filter fun (i : Nat) => decide ((i : Int) ∈ Perms.img p l)).map fun (i : Nat) => (i : Int)
theorem Perms.imgTo_step (p l : List Int) (j : Nat) : Perms.imgTo p l (j + 1) = if (j : Int) ∈ Perms.img p l then Perms.imgTo p l j ++ [(j : Int)] else Perms.imgTo p l j := by
  unfold Perms.imgTo
  rw [List.range_succ, List.filter_append]
  by_cases h : (j : Int) ∈ Perms.img p l
  · simp [h]
  · simp [h]
theorem Perms.imgTo_len (p l : List Int) (j : Nat) : (Perms.imgTo p l j).length ≤ j := by
  unfold Perms.imgTo
  rw [List.length_map]
  have := List.length_filter_le (fun (i : Nat) => decide ((i : Int) ∈ Perms.img p l)) (List.range j)
  rw [List.length_range] at this
  exact this
set_option maxHeartbeats 1600000 in
theorem l04Image_c {vp vl : Value} {p l : List Int} {n : Nat} {w : World} {Q : Ending → World → Prop} (hp : IntsAt w vp p) (hl : IntsAt w vl l) (hR : Perms.inR n p) (hn : n ≤ 10) (hlr : ∀ x ∈ l, 0 ≤ x ∧ x < n)
    (hQ : ∀ v w', OwnInts w' w.heap.size v (Perms.imgTo p l n) → Below w.heap.size w w' → Q (.returned v) w') :
    Calls Try.prog 110 #[vp, vl] w Q := by
  have H := Lib.hid hQ; clear hQ
  have hp0 := Lib.hid hp
  have hl0 := Lib.hid hl
  obtain ⟨ap, cp, rfl, lp, lcp, ccp⟩ := hp.form
  obtain ⟨al, cl, rfl, ll, lcl, ccl⟩ := hl.form
  have hpl := hR.1
  have hR' := Lib.hid hR
  have hlr' := Lib.hid hlr
  rw [hpl] at hp lp lcp ⊢
  have hp1 : Hid (IntsAt w (.slice ap n cp) p) := Lib.hid hp
  clear hR hlr hp hpl hp0
  go_enter Try.func110, Try.ntmps110
  go_wp2_with (at_make; refine mk_bools rfl (.tmp 12) (.tmp 12) rfl rfl rfl n rfl (by omega) ?_; intro w1 hB1 hb1 hs1)
  go_loopg [16] l.length (fun g i wr => Below w.heap.size w wr ∧ ∃ j : Nat, i = .int .i64 j ∧ BoolsIn wr w.heap.size 4 n (fun i => decide ((i : Int) ∈ (Perms.img p l).take j)) ∧ w.heap.size < wr.heap.size ∧ j + g ≤ l.length ∧ l.length ≤ j + g)
  case atStart => exact ⟨hb1, 0, rfl, hB1.congr (fun i hi => by simp), hs1, by omega, by omega⟩
  case round =>
    obtain ⟨hb, j, rfl, hB, hsz, hk1, hk2⟩ := hrel
    by_cases hj : j < l.length
    · have i1 : (j : Int) < l.length := by omega
      obtain ⟨ba, oa, x, rfl, hx, hcx⟩ := hl0.out.cell hj
      have hcx' := below_cells hb _ _ hcx
      obtain ⟨hx0, hx1⟩ := hlr'.out x (List.mem_of_getElem? hx.out)
      obtain ⟨m, rfl⟩ : ∃ m : Nat, x = m := ⟨x.toNat, by omega⟩
      have hmn : m < n := by omega
      have hmp : m < p.length := by rw [hR'.out.1]; exact hmn
      obtain ⟨bp, op, y, rfl, hy, hcy⟩ := hp1.out.cell (k := m) hmp
      have hcy' := below_cells hb _ _ hcy
      obtain ⟨hy0, hy1⟩ := hR'.out.2 y (List.mem_of_getElem? hy.out)
      obtain ⟨q, rfl⟩ : ∃ q : Nat, y = q := ⟨y.toNat, by omega⟩
      have hqn : q < n := by omega
      have hmI : (m : Int) < n := by omega
      have hqI : (q : Int) < n := by omega
      have hcb := hB.cell (i := q) hqn
      have hfb := hB.frozen q
      have hst : Hid ((Perms.img p l).take (j + 1) = (Perms.img p l).take j ++ [(q : Int)]) := Lib.hid (by
        unfold Perms.img
        rw [List.take_add_one, List.getElem?_map, hx.out]
        simp [List.getD, hy.out])
      have hB2 : BoolsIn (wr.setCell ⟨w.heap.size, q, none⟩ (.bool true)) w.heap.size 4 n (fun i => decide ((i : Int) ∈ (Perms.img p l).take (j + 1))) := (hB.set q true).congr (fun i hi => by
        rw [hst.out]
        by_cases e : i = q
        · simp [e]
        · have e2 : ¬ (i : Int) = q := by omega
          simp [e, e2])
      have hB2' := Lib.hid hB2
      have hb2 := Below.setCell hb (p := ⟨w.heap.size, q, none⟩) (Nat.le_refl _) (.bool true)
      clear hB2 hmp
      go_wp2_with fail
      have hsz2 : w.heap.size < (wr.setCell ⟨w.heap.size, q, none⟩ (.bool true)).heap.size := by simp [World.setCell]; exact hsz
      go_roundg (gk - 1)
      case measure => omega
      case rel => exact ⟨hb2, j + 1, by go_num, hB2'.out, hsz2, by omega, by omega⟩
    · have hB3 : BoolsIn wr w.heap.size 4 n (fun i => decide ((i : Int) ∈ Perms.img p l)) := hB.congr (fun i hi => by
        rw [List.take_of_length_le (by unfold Perms.img; rw [List.length_map]; omega)])
      go_wp2_with fail
      have o0 := own_empty wr
      have b0 := below_alloc wr (.cells #[] 3)
      have hB4 := hB3.below b0
      have hbw0 := hb.trans (b0.mono hb.size)
      have hbs := hb.size
      obtain ⟨WRS, hWRS⟩ : ∃ z, z = wr.heap.size := ⟨_, rfl⟩
      have hWl : w.heap.size ≤ WRS ∧ w.heap.size < WRS := by omega
      have hWl2 : WRS ≤ (wr.alloc (.cells #[] 3)).heap.size := by simp; omega
      have o0' : OwnInts (wr.alloc (.cells #[] 3)) WRS (.slice (some ⟨wr.heap.size, 0, none⟩) 0 0) [] := OwnInts.mono o0 (by omega)
      clear hWRS
      go_loopg [8, 30] n (fun g u8 u30 w2 => ∃ j : Nat, u30 = .int .i64 j ∧ OwnInts w2 WRS u8 (Perms.imgTo p l j) ∧ BoolsIn w2 w.heap.size 4 n (fun i => decide ((i : Int) ∈ Perms.img p l)) ∧ Below w.heap.size w w2 ∧ WRS ≤ w2.heap.size ∧ j + g ≤ n ∧ n ≤ j + g)
      case atStart => exact ⟨0, rfl, o0', hB4, hbw0, hWl2, by omega, by omega⟩
      case round =>
        obtain ⟨i, rfl, oi, hBi, hbi, hsi, hi1, hi2⟩ := hrel
        obtain ⟨a8, c8, rfl, _, _, _⟩ := Own.form oi
        have hil := Perms.imgTo_len p l i
        by_cases hi : i < n
        · have hiI : (i : Int) < n := by omega
          have hcb := hBi.cell hi
          have hst := Perms.imgTo_step p l i
          by_cases hm : (i : Int) ∈ Perms.img p l
          · have hst2 := Lib.hid hst
            rw [if_pos hm] at hst
            have hst3 := Lib.hid hst
            rw [decide_eq_true hm] at hcb
            clear hm hst hst2
            go_wp2_with (at_builtin; refine app_int rfl (.tmp 36) (.tmp 38) rfl rfl (OwnInts.below oi (below_alloc wr _)) rfl (cell_new _ _ _) (by omega) (by simp; omega) ?_; intro v3 w3 o3 g3)
            rw [← hst3.out] at o3
            have hne : (Value.slice a8 (ints (Perms.imgTo p l i)).length c8).ownBlock ≠ some w.heap.size := fun e => by have := (Own.lt oi e).1; omega
            have ba := below_alloc wr (.cells #[.int .i64 (i : Int)] 3)
            have hB5 := (hBi.below ba).grown g3 hne
            have hb3 := (hbi.trans (ba.mono hbi.size)).grown g3 (by have := hbi.size; simp; omega) (fun b hb => by have := (Own.lt oi hb).1; omega)
            have hs3 := g3.size
            simp at hs3
            go_roundg (gk - 1)
            case measure => omega
            case rel => exact ⟨i + 1, by go_num, o3, hB5, hb3, by omega, by omega, by omega⟩
          · rw [if_neg hm] at hst
            have hst3 := Lib.hid hst
            have oi2 : Hid (OwnInts wr WRS (.slice a8 (ints (Perms.imgTo p l i)).length c8) (Perms.imgTo p l (i + 1))) := Lib.hid (by rw [hst3.out]; exact oi)
            rw [decide_eq_false hm] at hcb
            clear hm hst
            go_wp2_with fail
            go_roundg (gk - 1)
            case measure => omega
            case rel => exact ⟨i + 1, by go_num, oi2.out, hBi, hbi, hsi, by omega, by omega⟩
        · obtain rfl : i = n := by omega
          have h3 := Lib.hid (H.out _ _ (OwnInts.mono oi hWl.1) hbi)
          go_wp2_with fail
          exact h3.out
end Go.Proofs.Ytdjdagcgodpgdaa
/- The cycles of a permutation, as both sides walk them. -/
set_option linter.unusedVariables false
namespace Go.Proofs.Ytdjdagcgodpgdaa
open Go.RowKit

/-- What was seen: points, each once. -/
def Perms.Seen (n : Nat) (s : List Nat) : Prop := s.Nodup ∧ ∀ x ∈ s, x < n
theorem Perms.Seen.len {n : Nat} {s : List Nat} (h : Perms.Seen n s) : s.length ≤ n := by
  have := Perms.subset_len h.1 (fun x hx => List.mem_range.2 (h.2 x hx))
  rwa [List.length_range] at this
theorem Perms.Seen.push {n a : Nat} {s : List Nat} (h : Perms.Seen n s) (ha : a < n) (hs : a ∉ s) : Perms.Seen n (s ++ [a]) := by
  refine ⟨?_, fun x hx => ?_⟩
  · rw [List.nodup_append]
    refine ⟨h.1, by simp, fun x hx y hy => ?_⟩
    rw [List.mem_singleton] at hy
    subst hy
    intro e
    subst e
    exact hs hx
  · rcases List.mem_append.1 hx with hx | hx
    · exact h.2 x hx
    · rw [List.mem_singleton] at hx
      omega
theorem Perms.cycW_seen {p : List Int} (hR : Perms.inR p.length p) : ∀ (f a : Nat) (s : List Nat) (row : List Int), Perms.Seen p.length s → a < p.length → Perms.Seen p.length (Perms.cycW p f a s row).1
  | 0, a, s, row, h, _ => h
  | f + 1, a, s, row, h, ha => by
    unfold Perms.cycW
    by_cases hs : a ∈ s
    · rw [if_pos hs]; exact h
    · rw [if_neg hs]
      refine Perms.cycW_seen hR f _ _ _ (h.push ha hs) ?_
      have h2 := hR.2 (p.getD a 0) (by rw [List.getD, List.getElem?_eq_getElem ha]; exact List.getElem_mem ha)
      omega
theorem Perms.cycTo_seen {p : List Int} (hR : Perms.inR p.length p) : ∀ j, j ≤ p.length → Perms.Seen p.length (Perms.cycTo p j).1
  | 0, _ => ⟨by simp [Perms.cycTo], by simp [Perms.cycTo]⟩
  | j + 1, hj => by
    have ih := Perms.cycTo_seen hR j (by omega)
    unfold Perms.cycTo
    by_cases hs : j ∈ (Perms.cycTo p j).1
    · rw [if_pos hs]; exact ih
    · rw [if_neg hs]
      exact Perms.cycW_seen hR _ _ _ _ ih (by omega)
theorem Perms.cycW_row {p : List Int} : ∀ (f a : Nat) (s : List Nat) (row : List Int), (Perms.cycW p f a s row).2.length + s.length = row.length + (Perms.cycW p f a s row).1.length
  | 0, a, s, row => by simp [Perms.cycW]; 
  | f + 1, a, s, row => by
    unfold Perms.cycW
    by_cases hs : a ∈ s
    · rw [if_pos hs]
    · rw [if_neg hs]
      have := Perms.cycW_row (p := p) f (p.getD a 0).toNat (s ++ [a]) (row ++ [(a : Int)])
      simp only [List.length_append, List.length_singleton] at this
      omega
theorem Perms.cycTo_len (p : List Int) : ∀ j, (Perms.cycTo p j).2.length ≤ j
  | 0 => by simp [Perms.cycTo]
  | j + 1 => by
    have ih := Perms.cycTo_len p j
    unfold Perms.cycTo
    by_cases hs : j ∈ (Perms.cycTo p j).1
    · rw [if_pos hs]; omega
    · rw [if_neg hs]; simp; omega
/-- A store into the flags leaves the rows. -/
theorem BoolsIn.keepOwn {w : World} {b n B k : Nat} {T : TypeId} {P : Nat → Bool} (h : BoolsIn w b 4 n P) {v : Value} {xs : List Value} (ho : Own w B T v xs) (hT : T ≠ 4) (u : Value) : Own (w.setCell ⟨b, k, none⟩ u) B T v xs :=
  Own.setOther ho u (fun e => by
    obtain ⟨cur, hc⟩ := Own.block ho e
    obtain ⟨arr, h1, _⟩ := h
    rw [h1] at hc
    simp only [Option.some.injEq, Obj.cells.injEq] at hc
    exact hT hc.2.1.symm)
theorem BoolsIn.keepRows {w : World} {b n B E k : Nat} {P : Nat → Bool} (h : BoolsIn w b 4 n P) {us : List Value} {xss : List (List Int)} (hr : Rows w B E us xss) (u : Value) : Rows (w.setCell ⟨b, k, none⟩ u) B E us xss :=
  ⟨hr.1, fun i xs hi => by
    obtain ⟨z, h1, h2, h3⟩ := hr.2.1 i xs hi
    exact ⟨z, h1, h.keepOwn h2 (by decide) u, h3⟩, hr.2.2⟩
theorem BoolsIn.apartOf {w : World} {b n B : Nat} {T : TypeId} {P : Nat → Bool} (h : BoolsIn w b 4 n P) {v : Value} {xs : List Value} (ho : Own w B T v xs) (hT : T ≠ 4) : v.ownBlock ≠ some b := fun e => by
  obtain ⟨cur, hc⟩ := Own.block ho e
  obtain ⟨arr, h1, _⟩ := h
  rw [h1] at hc
  simp only [Option.some.injEq, Obj.cells.injEq] at hc
  exact hT hc.2.1.symm
end Go.Proofs.Ytdjdagcgodpgdaa
/- The cycles of a permutation: both sides (printed by mk/mkcyc.py). -/
set_option linter.unusedVariables false
namespace Go.Proofs.Ytdjdagcgodpgdaa
open Go.RowKit

set_option maxHeartbeats 3200000 in
theorem CyclesOf_s {vp : Value} {p : List Int} {w : World} {Q : Ending → World → Prop} (hp : IntsAt w vp p)
    (hQ : ∀ v w', OwnRows w' w.heap.size w'.heap.size v (Perms.cycles p) → Below w.heap.size w w' → Q (.returned v) w') :
    Calls Try.prog 92 #[vp] w Q := by
  have H := Lib.hid hQ; clear hQ
  have hp0 := Lib.hid hp
  obtain ⟨ap, cp, rfl, lp, lcp, ccp⟩ := hp.form
  clear hp
  by_cases hok : Perms.permB p = true
  rotate_left
  · have hf : Perms.permB p = false := by simpa using hok
    have hf' := Lib.hid hf
    have hc : Hid (Perms.cycles p = []) := Lib.hid (by unfold Perms.cycles; rw [if_neg hok])
    clear hok hf
    go_enter Try.func92, Try.ntmps92
    go_wp2_with fail
    refine PermOk_s hp0.out ?_
    intro w1 b1
    rw [hf'.out]
    have h3 := Lib.hid (H.out (.slice none 0 0) w1 (by rw [hc.out]; exact OwnRows.nil _ _ _) b1)
    go_wp2_with fail
    exact h3.out
  have hpl := Perms.permB_len hok
  have hR : Perms.inR p.length p := ⟨rfl, Perms.permB_range hok⟩
  have hR' := Lib.hid hR
  have hok' := Lib.hid hok
  have hc : Hid (Perms.cycles p = (Perms.cycTo p p.length).2) := Lib.hid (by unfold Perms.cycles; rw [if_pos hok])
  clear hok hR
  go_enter Try.func92, Try.ntmps92
  go_wp2_with fail
  refine PermOk_s hp0.out ?_
  intro w1 b1
  rw [hok'.out]
  have o0 := own_outer_empty w1
  have b0 := below_alloc w1 (.cells #[] 38)
  have bw0 := b1.trans (b0.mono b1.size)
  go_wp2_with (at_make; refine mk_bools rfl (.tmp 13) (.tmp 13) rfl rfl rfl p.length rfl (by omega) ?_; intro w2 hB2 hb2 hs2)
  obtain ⟨bb, hbb⟩ : ∃ bb, bb = (w1.alloc (.cells #[] 38)).heap.size := ⟨_, rfl⟩
  have hbb2 : w.heap.size ≤ bb := by have := b1.size; rw [hbb]; simp; omega
  have hbb3 : bb = w1.heap.size + 1 := by rw [hbb]; simp
  have hB2' : Hid (BoolsIn w2 bb 4 p.length (fun i => decide (i ∈ (Perms.cycTo p 0).1))) := Lib.hid (by rw [hbb]; exact hB2.congr (fun i hi => by simp [Perms.cycTo]))
  have o2 : Own w2 w.heap.size 38 (.slice (some ⟨w1.heap.size, 0, none⟩) 0 0) [] := Own.mono (Own.below o0 hb2) b1.size
  have bw2 := bw0.trans (hb2.mono bw0.size)
  have R0 : Hid (Rows w2 w.heap.size w2.heap.size [] (Perms.cycTo p 0).2) := Lib.hid (Rows.nil w2 w.heap.size w2.heap.size)
  rw [← hbb3]
  clear hB2 o0 hbb hbb3
  go_wp2_with fail
  go_loopg [3, 17] p.length (fun gg u3 u17 wr => ∃ (j : Nat) (us : List Value), u17 = .int .i64 j ∧ Own wr w.heap.size 38 u3 us ∧ Hid (Rows wr w.heap.size wr.heap.size us (Perms.cycTo p j).2) ∧ Hid (BoolsIn wr bb 4 p.length (fun i => decide (i ∈ (Perms.cycTo p j).1))) ∧ Below w.heap.size w wr ∧ j + gg ≤ p.length ∧ p.length ≤ j + gg)
  case atStart => exact ⟨0, [], rfl, o2, R0, hB2', bw2, by omega, by omega⟩
  case round =>
    obtain ⟨j, us, rfl, oj, rj, Bj, bj, hj1, hj2⟩ := hrel
    obtain ⟨gk1, hgk1⟩ : ∃ g, g = gk := ⟨_, rfl⟩
    obtain ⟨a3, c3, rfl, _, _, _⟩ := Own.form oj
    have hul : us.length ≤ 10 := by have := Perms.cycTo_len p j; rw [rj.out.1]; omega
    by_cases hj : j < p.length
    · have hjI : (j : Int) < p.length := by omega
      have hcb := Bj.out.cell hj
      have hseen := Lib.hid (Perms.cycTo_seen hR'.out j (by omega))
      have hst : Perms.cycTo p (j + 1) = if j ∈ (Perms.cycTo p j).1 then Perms.cycTo p j else ((Perms.cycW p (p.length + 1 - (Perms.cycTo p j).1.length) j (Perms.cycTo p j).1 []).1, (Perms.cycTo p j).2 ++ [(Perms.cycW p (p.length + 1 - (Perms.cycTo p j).1.length) j (Perms.cycTo p j).1 []).2]) := rfl
      by_cases hm : j ∈ (Perms.cycTo p j).1
      · rw [if_pos hm] at hst
        have hst' := Lib.hid hst
        rw [decide_eq_true hm] at hcb
        have rj' : Hid (Rows wr w.heap.size wr.heap.size us (Perms.cycTo p (j + 1)).2) := Lib.hid (by rw [hst'.out]; exact rj.out)
        have Bj' : Hid (BoolsIn wr bb 4 p.length (fun i => decide (i ∈ (Perms.cycTo p (j + 1)).1))) := Lib.hid (by rw [hst'.out]; exact Bj.out)
        clear hst hm
        go_wp2_with fail
        go_roundg (gk1 - 1)
        case measure => omega
        case rel => exact ⟨j + 1, us, by go_num, oj, rj', Bj', bj, by omega, by omega⟩
      · rw [if_neg hm] at hst
        rw [decide_eq_false hm] at hcb
        have hslt : (Perms.cycTo p j).1.length < p.length := by
          have h := (hseen.out.push hj hm).len
          rw [List.length_append, List.length_singleton] at h
          omega
        obtain ⟨R, hRe⟩ : ∃ R, R = Perms.cycW p (p.length + 1 - (Perms.cycTo p j).1.length) j (Perms.cycTo p j).1 [] := ⟨_, rfl⟩
        rw [← hRe] at hst
        have hst' := Lib.hid hst
        have hR0 : Hid (Perms.cycW p (p.length + 1 - (Perms.cycTo p j).1.length) j (Perms.cycTo p j).1 [] = R) := Lib.hid hRe.symm
        clear hst hRe
        go_wp2_with fail
        have o1 := own_empty wr
        have b1' := below_alloc wr (.cells #[] 3)
        obtain ⟨V, hV⟩ : ∃ V, V = wr.heap.size := ⟨_, rfl⟩
        have hVw : w.heap.size ≤ V := by have := bj.size; omega
        have hbV : bb < V := by rw [hV]; exact Bj.out.lt
        have i0 : OwnInts (wr.alloc (.cells #[] 3)) V (.slice (some ⟨wr.heap.size, 0, none⟩) 0 0) [] := by rw [hV]; exact o1
        have i1 := Own.below oj b1'
        have i2 : Hid (Rows (wr.alloc (.cells #[] 3)) w.heap.size V us (Perms.cycTo p j).2) := Lib.hid (by rw [hV]; exact rj.out.below b1')
        have i3 := Lib.hid (Bj.out.below b1')
        have i4 := bj.trans (b1'.mono bj.size)
        have i5 : V ≤ (wr.alloc (.cells #[] 3)).heap.size := by rw [hV]; exact b1'.size
        obtain ⟨S0, hS0⟩ : ∃ S0, S0 = (Perms.cycTo p j).1 := ⟨_, rfl⟩
        obtain ⟨T0, hT0⟩ : ∃ T0, T0 = (Perms.cycTo p j).2 := ⟨_, rfl⟩
        rw [← hS0] at hm hslt hseen hR0 i3
        rw [← hT0] at i2 hst'
        clear hS0 hT0 oj rj Bj bj hV hm
        go_loopg [6, 7] (p.length - S0.length) (fun gg u6 u7 w2 => ∃ (a : Nat) (s : List Nat) (row : List Int), u7 = .int .i64 a ∧ a < p.length ∧ OwnInts w2 V u6 row ∧ Own w2 w.heap.size 38 (.slice a3 us.length c3) us ∧ Hid (Rows w2 w.heap.size V us T0) ∧ Hid (BoolsIn w2 bb 4 p.length (fun i => decide (i ∈ s))) ∧ Below w.heap.size w w2 ∧ V ≤ w2.heap.size ∧ Hid (Perms.Seen p.length s) ∧ row.length ≤ s.length ∧ s.length + gg = p.length ∧ Hid (Perms.cycW p (gg + 1) a s row = R))
        case atStart => exact ⟨j, S0, [], rfl, hj, i0, i1, i2, i3, i4, i5, hseen, by simp, by omega, Lib.hid (by rw [← hR0.out]; congr 1; omega)⟩
        case round =>
          obtain ⟨a, s, row, rfl, ha, ir, io, iR, iB, bi, hVs, hss, hrl, hsg, hcw⟩ := hrel
          obtain ⟨a6, c6, rfl, _, _, _⟩ := Own.form ir
          have haI : (a : Int) < p.length := by omega
          have hca := iB.out.cell ha
          have hfa := iB.out.frozen a
          have hss10 := hss.out.len
          by_cases hma : a ∈ s
          · rw [decide_eq_true hma] at hca
            have hR1 : Hid (R = (s, row)) := Lib.hid (by rw [← hcw.out]; unfold Perms.cycW; rw [if_pos hma])
            clear hma
            have ba := below_alloc wr (.cells #[.slice a6 (ints row).length c6] 38)
            have io3 := Own.below io ba
            have hr3 := row_one wr (.slice a6 (ints row).length c6) 38
            have hone : Hid (∀ y' ∈ [Value.slice a6 (ints row).length c6], y'.oneCell' = true) := Lib.hid (fun y' hy' => by rw [List.mem_singleton] at hy'; rw [hy']; rfl)
            have oy := Lib.hid (OwnInts.below ir ba)
            have iR3 := Lib.hid (iR.out.below ba)
            have bi3 := bi.trans (ba.mono bi.size)
            have iB3 := Lib.hid (iB.out.below ba)
            go_wp2_with (at_builtin; refine app_outer rfl (.tmp 42) (.tmp 44) rfl rfl io3 rfl hr3 hone.out (by show us.length + 1 ≤ 1099511627776; omega) bi3.size ?_; intro v5 w5 o5 g5)
            have r5 : Hid (Rows w5 w.heap.size w5.heap.size (us ++ [.slice a6 (ints row).length c6]) (Perms.cycTo p (j + 1)).2) := Lib.hid (by
              rw [hst'.out, hR1.out]
              exact (((iR3.out).push (xs := row) (OwnInts.mono oy.out hVw) (fun b hb => (Own.lt oy.out hb).1)).outer io3 g5).tight)
            have b5 := bi3.grown g5 bi3.size (fun b hb => (Own.lt io3 hb).1)
            have B5 : Hid (BoolsIn w5 bb 4 p.length (fun i => decide (i ∈ (Perms.cycTo p (j + 1)).1))) := Lib.hid (by
              rw [hst'.out, hR1.out]
              exact iB3.out.grown g5 (iB3.out.apartOf io3 (by decide)))
            go_roundg (gk1 - 1)
            case measure => omega
            case rel => exact ⟨j + 1, _, by go_num, o5, r5, B5, b5, by omega, by omega⟩
          · rw [decide_eq_false hma] at hca
            have hs2 := hss.out.push ha hma
            have hlt := hs2.len
            rw [List.length_append, List.length_singleton] at hlt
            have hcw2 : Hid (Perms.cycW p gk (p.getD a 0).toNat (s ++ [a]) (row ++ [(a : Int)]) = R) := Lib.hid (by
              rw [← hcw.out]
              conv => rhs; unfold Perms.cycW
              rw [if_neg hma])
            obtain ⟨bp, op, y, rfl, hy, hcy⟩ := hp0.out.cell (k := a) ha
            have hyr := hR'.out.2 y (List.mem_of_getElem? hy.out)
            obtain ⟨q, rfl⟩ : ∃ q : Nat, y = q := ⟨y.toNat, by omega⟩
            have hcw3 : Hid (Perms.cycW p gk q (s ++ [a]) (row ++ [(a : Int)]) = R) := Lib.hid (by
              rw [← hcw2.out]
              simp [List.getD, hy.out])
            have hs2' := Lib.hid hs2
            have jr : OwnInts (wr.setCell ⟨bb, a, none⟩ (.bool true)) V (.slice a6 (ints row).length c6) row := iB.out.keepOwn ir (by decide) _
            have jo := iB.out.keepOwn io (by decide) (.bool true) (k := a)
            have jR := Lib.hid (iB.out.keepRows iR.out (.bool true) (k := a))
            have jB : BoolsIn (wr.setCell ⟨bb, a, none⟩ (.bool true)) bb 4 p.length (fun i => decide (i ∈ s ++ [a])) := (iB.out.set a true).congr (fun i hi => by
              by_cases e : i = a
              · simp [e]
              · simp [e])
            have jB' := Lib.hid jB
            have bi2 := bi.setCell (p := ⟨bb, a, none⟩) hbb2 (.bool true)
            have hVs2 : V ≤ (wr.setCell ⟨bb, a, none⟩ (.bool true)).heap.size := by simp [World.setCell]; exact hVs
            have hcn : Hid (((wr.setCell ⟨bb, a, none⟩ (.bool true)).alloc (.cells #[.int .i64 (a : Int)] 3)).cell? ⟨wr.heap.size, 0, none⟩ = some (.int .i64 (a : Int))) := Lib.hid (by
              have h := cell_new (wr.setCell ⟨bb, a, none⟩ (.bool true)) (.int .i64 (a : Int)) 3
              have e : (wr.setCell ⟨bb, a, none⟩ (.bool true)).heap.size = wr.heap.size := by simp [World.setCell]
              rw [e] at h
              exact h)
            have ba := below_alloc (wr.setCell ⟨bb, a, none⟩ (.bool true)) (.cells #[.int .i64 (a : Int)] 3)
            have b6 := bi2.trans (ba.mono bi2.size)
            have kr := Lib.hid (OwnInts.below jr ba)
            have ko := Own.below jo ba
            have kR := Lib.hid (jR.out.below ba)
            have kB := Lib.hid (jB'.out.below ba)
            have kV : V ≤ ((wr.setCell ⟨bb, a, none⟩ (.bool true)).alloc (.cells #[.int .i64 (a : Int)] 3)).heap.size := by simp [World.setCell]; omega
            have hrl10 : row.length + 1 ≤ 17592186044416 := by omega
            clear hcw hcw2 hma hs2 jB jr jo jR jB'
            go_wp2_with (at_builtin; refine app_int rfl (.tmp 38) (.tmp 40) rfl rfl kr.out rfl hcn.out hrl10 kV ?_; intro v7 w7 o7 g7; have b7 := b6.grown g7 b6.size (fun b hb => by have := (Own.lt kr.out hb).1; omega); have hcy7 := below_cells b7 _ _ hcy)
            have ko7 := Own.grown ko g7 (own_types kr.out ko (by decide))
            have kR7 := Lib.hid (kR.out.grown g7 (fun k hk => .inr (Own.lt kr.out hk).1))
            have kB7 := Lib.hid (kB.out.grown g7 (kB.out.apartOf kr.out (by decide)))
            have kV7 : V ≤ w7.heap.size := Nat.le_trans kV g7.size
            have hqp : q < p.length := by omega
            have hrl7 : (row ++ [(a : Int)]).length ≤ (s ++ [a]).length := by simp; omega
            have hg7 : (s ++ [a]).length + (gk - 1) = p.length := by simp; omega
            have hcw7 : Hid (Perms.cycW p (gk - 1 + 1) q (s ++ [a]) (row ++ [(a : Int)]) = R) := Lib.hid (by rw [← hcw3.out]; congr 1; omega)
            go_roundg (gk - 1)
            case measure => omega
            case rel => exact ⟨q, _, _, by go_num, hqp, o7, ko7, kR7, kB7, b7, kV7, hs2', hrl7, hg7, hcw7⟩
    · have hje : j = p.length := by omega
      have h2 : OwnRows wr w.heap.size wr.heap.size (.slice a3 us.length c3) (Perms.cycles p) := by
        rw [hc.out, ← hje]
        exact rj.out.whole oj (Own.inBlk oj)
      have h3 := Lib.hid (H.out _ wr h2 bj)
      clear h2
      go_wp2_with fail
      exact h3.out
set_option maxHeartbeats 3200000 in
theorem CyclesOf_i {vp : Value} {p : List Int} {w : World} {Q : Ending → World → Prop} (hp : IntsAt w vp p)
    (hQ : ∀ v w', OwnRows w' w.heap.size w'.heap.size v (Perms.cycles p) → Below w.heap.size w w' → Q (.returned v) w') :
    Calls Try.prog 93 #[vp] w Q := by
  have H := Lib.hid hQ; clear hQ
  have hp0 := Lib.hid hp
  obtain ⟨ap, cp, rfl, lp, lcp, ccp⟩ := hp.form
  clear hp
  by_cases hok : Perms.permB p = true
  rotate_left
  · have hf : Perms.permB p = false := by simpa using hok
    have hf' := Lib.hid hf
    have hc : Hid (Perms.cycles p = []) := Lib.hid (by unfold Perms.cycles; rw [if_neg hok])
    clear hok hf
    go_enter Try.func93, Try.ntmps93
    go_wp2_with fail
    refine PermOk_i hp0.out ?_
    intro w1 b1
    rw [hf'.out]
    have h3 := Lib.hid (H.out (.slice none 0 0) w1 (by rw [hc.out]; exact OwnRows.nil _ _ _) b1)
    go_wp2_with fail
    exact h3.out
  have hpl := Perms.permB_len hok
  have hR : Perms.inR p.length p := ⟨rfl, Perms.permB_range hok⟩
  have hR' := Lib.hid hR
  have hok' := Lib.hid hok
  have hc : Hid (Perms.cycles p = (Perms.cycTo p p.length).2) := Lib.hid (by unfold Perms.cycles; rw [if_pos hok])
  clear hok hR
  go_enter Try.func93, Try.ntmps93
  go_wp2_with fail
  refine PermOk_i hp0.out ?_
  intro w1 b1
  rw [hok'.out]
  have o0 := own_outer_empty w1
  have b0 := below_alloc w1 (.cells #[] 38)
  have bw0 := b1.trans (b0.mono b1.size)
  go_wp2_with (at_make; refine mk_bools rfl (.tmp 13) (.tmp 13) rfl rfl rfl p.length rfl (by omega) ?_; intro w2 hB2 hb2 hs2)
  obtain ⟨bb, hbb⟩ : ∃ bb, bb = (w1.alloc (.cells #[] 38)).heap.size := ⟨_, rfl⟩
  have hbb2 : w.heap.size ≤ bb := by have := b1.size; rw [hbb]; simp; omega
  have hbb3 : bb = w1.heap.size + 1 := by rw [hbb]; simp
  have hB2' : Hid (BoolsIn w2 bb 4 p.length (fun i => decide (i ∈ (Perms.cycTo p 0).1))) := Lib.hid (by rw [hbb]; exact hB2.congr (fun i hi => by simp [Perms.cycTo]))
  have o2 : Own w2 w.heap.size 38 (.slice (some ⟨w1.heap.size, 0, none⟩) 0 0) [] := Own.mono (Own.below o0 hb2) b1.size
  have bw2 := bw0.trans (hb2.mono bw0.size)
  have R0 : Hid (Rows w2 w.heap.size w2.heap.size [] (Perms.cycTo p 0).2) := Lib.hid (Rows.nil w2 w.heap.size w2.heap.size)
  rw [← hbb3]
  clear hB2 o0 hbb hbb3
  go_wp2_with fail
  go_loopg [3, 17] p.length (fun gg u3 u17 wr => ∃ (j : Nat) (us : List Value), u17 = .int .i64 j ∧ Own wr w.heap.size 38 u3 us ∧ Hid (Rows wr w.heap.size wr.heap.size us (Perms.cycTo p j).2) ∧ Hid (BoolsIn wr bb 4 p.length (fun i => decide (i ∈ (Perms.cycTo p j).1))) ∧ Below w.heap.size w wr ∧ j + gg ≤ p.length ∧ p.length ≤ j + gg)
  case atStart => exact ⟨0, [], rfl, o2, R0, hB2', bw2, by omega, by omega⟩
  case round =>
    obtain ⟨j, us, rfl, oj, rj, Bj, bj, hj1, hj2⟩ := hrel
    obtain ⟨gk1, hgk1⟩ : ∃ g, g = gk := ⟨_, rfl⟩
    obtain ⟨a3, c3, rfl, _, _, _⟩ := Own.form oj
    have hul : us.length ≤ 10 := by have := Perms.cycTo_len p j; rw [rj.out.1]; omega
    by_cases hj : j < p.length
    · have hjI : (j : Int) < p.length := by omega
      have hcb := Bj.out.cell hj
      have hseen := Lib.hid (Perms.cycTo_seen hR'.out j (by omega))
      have hst : Perms.cycTo p (j + 1) = if j ∈ (Perms.cycTo p j).1 then Perms.cycTo p j else ((Perms.cycW p (p.length + 1 - (Perms.cycTo p j).1.length) j (Perms.cycTo p j).1 []).1, (Perms.cycTo p j).2 ++ [(Perms.cycW p (p.length + 1 - (Perms.cycTo p j).1.length) j (Perms.cycTo p j).1 []).2]) := rfl
      by_cases hm : j ∈ (Perms.cycTo p j).1
      · rw [if_pos hm] at hst
        have hst' := Lib.hid hst
        rw [decide_eq_true hm] at hcb
        have rj' : Hid (Rows wr w.heap.size wr.heap.size us (Perms.cycTo p (j + 1)).2) := Lib.hid (by rw [hst'.out]; exact rj.out)
        have Bj' : Hid (BoolsIn wr bb 4 p.length (fun i => decide (i ∈ (Perms.cycTo p (j + 1)).1))) := Lib.hid (by rw [hst'.out]; exact Bj.out)
        clear hst hm
        go_wp2_with fail
        go_roundg (gk1 - 1)
        case measure => omega
        case rel => exact ⟨j + 1, us, by go_num, oj, rj', Bj', bj, by omega, by omega⟩
      · rw [if_neg hm] at hst
        rw [decide_eq_false hm] at hcb
        have hslt : (Perms.cycTo p j).1.length < p.length := by
          have h := (hseen.out.push hj hm).len
          rw [List.length_append, List.length_singleton] at h
          omega
        obtain ⟨R, hRe⟩ : ∃ R, R = Perms.cycW p (p.length + 1 - (Perms.cycTo p j).1.length) j (Perms.cycTo p j).1 [] := ⟨_, rfl⟩
        rw [← hRe] at hst
        have hst' := Lib.hid hst
        have hR0 : Hid (Perms.cycW p (p.length + 1 - (Perms.cycTo p j).1.length) j (Perms.cycTo p j).1 [] = R) := Lib.hid hRe.symm
        clear hst hRe
        go_wp2_with fail
        have o1 := own_empty wr
        have b1' := below_alloc wr (.cells #[] 3)
        obtain ⟨V, hV⟩ : ∃ V, V = wr.heap.size := ⟨_, rfl⟩
        have hVw : w.heap.size ≤ V := by have := bj.size; omega
        have hbV : bb < V := by rw [hV]; exact Bj.out.lt
        have i0 : OwnInts (wr.alloc (.cells #[] 3)) V (.slice (some ⟨wr.heap.size, 0, none⟩) 0 0) [] := by rw [hV]; exact o1
        have i1 := Own.below oj b1'
        have i2 : Hid (Rows (wr.alloc (.cells #[] 3)) w.heap.size V us (Perms.cycTo p j).2) := Lib.hid (by rw [hV]; exact rj.out.below b1')
        have i3 := Lib.hid (Bj.out.below b1')
        have i4 := bj.trans (b1'.mono bj.size)
        have i5 : V ≤ (wr.alloc (.cells #[] 3)).heap.size := by rw [hV]; exact b1'.size
        obtain ⟨S0, hS0⟩ : ∃ S0, S0 = (Perms.cycTo p j).1 := ⟨_, rfl⟩
        obtain ⟨T0, hT0⟩ : ∃ T0, T0 = (Perms.cycTo p j).2 := ⟨_, rfl⟩
        rw [← hS0] at hm hslt hseen hR0 i3
        rw [← hT0] at i2 hst'
        clear hS0 hT0 oj rj Bj bj hV hm
        go_loopg [6, 7] (p.length - S0.length) (fun gg u6 u7 w2 => ∃ (a : Nat) (s : List Nat) (row : List Int), u7 = .int .i64 a ∧ a < p.length ∧ OwnInts w2 V u6 row ∧ Own w2 w.heap.size 38 (.slice a3 us.length c3) us ∧ Hid (Rows w2 w.heap.size V us T0) ∧ Hid (BoolsIn w2 bb 4 p.length (fun i => decide (i ∈ s))) ∧ Below w.heap.size w w2 ∧ V ≤ w2.heap.size ∧ Hid (Perms.Seen p.length s) ∧ row.length ≤ s.length ∧ s.length + gg = p.length ∧ Hid (Perms.cycW p (gg + 1) a s row = R))
        case atStart => exact ⟨j, S0, [], rfl, hj, i0, i1, i2, i3, i4, i5, hseen, by simp, by omega, Lib.hid (by rw [← hR0.out]; congr 1; omega)⟩
        case round =>
          obtain ⟨a, s, row, rfl, ha, ir, io, iR, iB, bi, hVs, hss, hrl, hsg, hcw⟩ := hrel
          obtain ⟨a6, c6, rfl, _, _, _⟩ := Own.form ir
          have haI : (a : Int) < p.length := by omega
          have hca := iB.out.cell ha
          have hfa := iB.out.frozen a
          have hss10 := hss.out.len
          by_cases hma : a ∈ s
          · rw [decide_eq_true hma] at hca
            have hR1 : Hid (R = (s, row)) := Lib.hid (by rw [← hcw.out]; unfold Perms.cycW; rw [if_pos hma])
            clear hma
            have ba := below_alloc wr (.cells #[.slice a6 (ints row).length c6] 38)
            have io3 := Own.below io ba
            have hr3 := row_one wr (.slice a6 (ints row).length c6) 38
            have hone : Hid (∀ y' ∈ [Value.slice a6 (ints row).length c6], y'.oneCell' = true) := Lib.hid (fun y' hy' => by rw [List.mem_singleton] at hy'; rw [hy']; rfl)
            have oy := Lib.hid (OwnInts.below ir ba)
            have iR3 := Lib.hid (iR.out.below ba)
            have bi3 := bi.trans (ba.mono bi.size)
            have iB3 := Lib.hid (iB.out.below ba)
            go_wp2_with (at_builtin; refine app_outer rfl (.tmp 42) (.tmp 44) rfl rfl io3 rfl hr3 hone.out (by show us.length + 1 ≤ 1099511627776; omega) bi3.size ?_; intro v5 w5 o5 g5)
            have r5 : Hid (Rows w5 w.heap.size w5.heap.size (us ++ [.slice a6 (ints row).length c6]) (Perms.cycTo p (j + 1)).2) := Lib.hid (by
              rw [hst'.out, hR1.out]
              exact (((iR3.out).push (xs := row) (OwnInts.mono oy.out hVw) (fun b hb => (Own.lt oy.out hb).1)).outer io3 g5).tight)
            have b5 := bi3.grown g5 bi3.size (fun b hb => (Own.lt io3 hb).1)
            have B5 : Hid (BoolsIn w5 bb 4 p.length (fun i => decide (i ∈ (Perms.cycTo p (j + 1)).1))) := Lib.hid (by
              rw [hst'.out, hR1.out]
              exact iB3.out.grown g5 (iB3.out.apartOf io3 (by decide)))
            go_roundg (gk1 - 1)
            case measure => omega
            case rel => exact ⟨j + 1, _, by go_num, o5, r5, B5, b5, by omega, by omega⟩
          · rw [decide_eq_false hma] at hca
            have hs2 := hss.out.push ha hma
            have hlt := hs2.len
            rw [List.length_append, List.length_singleton] at hlt
            have hcw2 : Hid (Perms.cycW p gk (p.getD a 0).toNat (s ++ [a]) (row ++ [(a : Int)]) = R) := Lib.hid (by
              rw [← hcw.out]
              conv => rhs; unfold Perms.cycW
              rw [if_neg hma])
            obtain ⟨bp, op, y, rfl, hy, hcy⟩ := hp0.out.cell (k := a) ha
            have hyr := hR'.out.2 y (List.mem_of_getElem? hy.out)
            obtain ⟨q, rfl⟩ : ∃ q : Nat, y = q := ⟨y.toNat, by omega⟩
            have hcw3 : Hid (Perms.cycW p gk q (s ++ [a]) (row ++ [(a : Int)]) = R) := Lib.hid (by
              rw [← hcw2.out]
              simp [List.getD, hy.out])
            have hs2' := Lib.hid hs2
            have jr : OwnInts (wr.setCell ⟨bb, a, none⟩ (.bool true)) V (.slice a6 (ints row).length c6) row := iB.out.keepOwn ir (by decide) _
            have jo := iB.out.keepOwn io (by decide) (.bool true) (k := a)
            have jR := Lib.hid (iB.out.keepRows iR.out (.bool true) (k := a))
            have jB : BoolsIn (wr.setCell ⟨bb, a, none⟩ (.bool true)) bb 4 p.length (fun i => decide (i ∈ s ++ [a])) := (iB.out.set a true).congr (fun i hi => by
              by_cases e : i = a
              · simp [e]
              · simp [e])
            have jB' := Lib.hid jB
            have bi2 := bi.setCell (p := ⟨bb, a, none⟩) hbb2 (.bool true)
            have hVs2 : V ≤ (wr.setCell ⟨bb, a, none⟩ (.bool true)).heap.size := by simp [World.setCell]; exact hVs
            have hcn : Hid (((wr.setCell ⟨bb, a, none⟩ (.bool true)).alloc (.cells #[.int .i64 (a : Int)] 3)).cell? ⟨wr.heap.size, 0, none⟩ = some (.int .i64 (a : Int))) := Lib.hid (by
              have h := cell_new (wr.setCell ⟨bb, a, none⟩ (.bool true)) (.int .i64 (a : Int)) 3
              have e : (wr.setCell ⟨bb, a, none⟩ (.bool true)).heap.size = wr.heap.size := by simp [World.setCell]
              rw [e] at h
              exact h)
            have ba := below_alloc (wr.setCell ⟨bb, a, none⟩ (.bool true)) (.cells #[.int .i64 (a : Int)] 3)
            have b6 := bi2.trans (ba.mono bi2.size)
            have kr := Lib.hid (OwnInts.below jr ba)
            have ko := Own.below jo ba
            have kR := Lib.hid (jR.out.below ba)
            have kB := Lib.hid (jB'.out.below ba)
            have kV : V ≤ ((wr.setCell ⟨bb, a, none⟩ (.bool true)).alloc (.cells #[.int .i64 (a : Int)] 3)).heap.size := by simp [World.setCell]; omega
            have hrl10 : row.length + 1 ≤ 17592186044416 := by omega
            clear hcw hcw2 hma hs2 jB jr jo jR jB'
            go_wp2_with (at_builtin; refine app_int rfl (.tmp 38) (.tmp 40) rfl rfl kr.out rfl hcn.out hrl10 kV ?_; intro v7 w7 o7 g7; have b7 := b6.grown g7 b6.size (fun b hb => by have := (Own.lt kr.out hb).1; omega); have hcy7 := below_cells b7 _ _ hcy)
            have ko7 := Own.grown ko g7 (own_types kr.out ko (by decide))
            have kR7 := Lib.hid (kR.out.grown g7 (fun k hk => .inr (Own.lt kr.out hk).1))
            have kB7 := Lib.hid (kB.out.grown g7 (kB.out.apartOf kr.out (by decide)))
            have kV7 : V ≤ w7.heap.size := Nat.le_trans kV g7.size
            have hqp : q < p.length := by omega
            have hrl7 : (row ++ [(a : Int)]).length ≤ (s ++ [a]).length := by simp; omega
            have hg7 : (s ++ [a]).length + (gk - 1) = p.length := by simp; omega
            have hcw7 : Hid (Perms.cycW p (gk - 1 + 1) q (s ++ [a]) (row ++ [(a : Int)]) = R) := Lib.hid (by rw [← hcw3.out]; congr 1; omega)
            go_roundg (gk - 1)
            case measure => omega
            case rel => exact ⟨q, _, _, by go_num, hqp, o7, ko7, kR7, kB7, b7, kV7, hs2', hrl7, hg7, hcw7⟩
    · have hje : j = p.length := by omega
      have h2 : OwnRows wr w.heap.size wr.heap.size (.slice a3 us.length c3) (Perms.cycles p) := by
        rw [hc.out, ← hje]
        exact rj.out.whole oj (Own.inBlk oj)
      have h3 := Lib.hid (H.out _ wr h2 bj)
      clear h2
      go_wp2_with fail
      exact h3.out
end Go.Proofs.Ytdjdagcgodpgdaa
/- The cycle type of a permutation: both sides (printed by mk/mkcty.py). -/
set_option linter.unusedVariables false
namespace Go.Proofs.Ytdjdagcgodpgdaa
open Go.RowKit

def Perms.ctTo (p : List Int) : Nat → List Int
  | 0 => List.replicate p.length 0
  | j + 1 => (Perms.ctTo p j).set (((Perms.cycles p).getD j []).length - 1) ((Perms.ctTo p j).getD (((Perms.cycles p).getD j []).length - 1) 0 + 1)
def Perms.cyt (p : List Int) : List Int := Perms.ctTo p (Perms.cycles p).length
theorem Perms.ctTo_len (p : List Int) : ∀ j, (Perms.ctTo p j).length = p.length
  | 0 => by simp [Perms.ctTo]
  | j + 1 => by rw [Perms.ctTo, List.length_set, Perms.ctTo_len p j]
theorem Perms.cyt_len (p : List Int) : (Perms.cyt p).length = p.length := Perms.ctTo_len p _
theorem Perms.ctTo_bd (p : List Int) : ∀ j : Nat, ∀ x ∈ Perms.ctTo p j, 0 ≤ x ∧ x ≤ j
  | 0, x, h => by
    rw [Perms.ctTo] at h
    rw [List.eq_of_mem_replicate h]; omega
  | j + 1, x, h => by
    rw [Perms.ctTo] at h
    rcases List.mem_or_eq_of_mem_set h with h | h
    · have := Perms.ctTo_bd p j x h; omega
    · have hg : ∀ i, 0 ≤ (Perms.ctTo p j).getD i 0 ∧ (Perms.ctTo p j).getD i 0 ≤ j := fun i => by
        by_cases hi : i < (Perms.ctTo p j).length
        · have e : (Perms.ctTo p j).getD i 0 = (Perms.ctTo p j)[i] := by simp [List.getD, List.getElem?_eq_getElem hi]
          rw [e]; exact Perms.ctTo_bd p j _ (List.getElem_mem hi)
        · have e : (Perms.ctTo p j).getD i 0 = 0 := by simp [List.getD, List.getElem?_eq_none (show (Perms.ctTo p j).length ≤ i by omega)]
          rw [e]; omega
      have := hg (((Perms.cycles p).getD j []).length - 1)
      omega
def Perms.cycN (p : List Int) : Prop := ∀ c ∈ Perms.cycles p, 1 ≤ c.length ∧ c.length ≤ p.length
set_option maxHeartbeats 1600000 in
theorem CycleType_i {vp : Value} {p : List Int} {w : World} {Q : Ending → World → Prop} (hp : IntsAt w vp p) (hpb : Perms.permB p = true) (hcn : Perms.cycN p)
    (hQ : ∀ v w', OwnInts w' w.heap.size v (Perms.cyt p) → Below w.heap.size w w' → Q (.returned v) w') :
    Calls Try.prog 75 #[vp] w Q := by
  have H := Lib.hid hQ; clear hQ
  have hp0 := Lib.hid hp
  obtain ⟨ap, cp, rfl, p1, p2, p3⟩ := hp.form
  have hlen := Perms.permB_len hpb
  obtain ⟨n, hn⟩ : ∃ n, n = p.length := ⟨_, rfl⟩
  have hn' := Lib.hid hn
  have hpb' := Lib.hid hpb
  have hcn' := Lib.hid hcn
  rw [← hn] at hlen p1 p2 ⊢
  have hp1 : Hid (IntsAt w (.slice ap n cp) p) := Lib.hid (by rw [hn]; exact hp)
  clear hp hpb hcn hn
  go_enter Try.func75, Try.ntmps75
  go_wp2_with fail
  refine PermOk_i hp1.out ?_
  intro w1 b1
  rw [hpb'.out]
  go_wp2_with (at_make; refine mk_ints rfl (.tmp 10) (.tmp 10) rfl rfl rfl n rfl (by omega) ?_; intro w2 o2 b2 s2)
  have b12 := b1.trans (b2.mono b1.size)
  go_wp2_with fail
  refine CyclesOf_i (hp1.out.below b12) ?_
  intro v3 w3 o3 b3
  have b13 := b12.trans (b3.mono b12.size)
  obtain ⟨a3, c3, rfl, _, _, _⟩ := o3.form
  have o2' : OwnInts w3 w1.heap.size (.slice (some ⟨w1.heap.size, 0, none⟩) n n) (Perms.ctTo p 0) := by
    have := OwnInts.below o2 b3
    rw [Perms.ctTo, ← hn'.out]
    exact this
  have hs2 := b2.size
  go_wp2_with fail
  go_loopg [15] (Perms.cycles p).length (fun gg u15 wr => ∃ (j : Nat), u15 = .int .i64 j ∧ OwnInts wr w1.heap.size (.slice (some ⟨w1.heap.size, 0, none⟩) n n) (Perms.ctTo p j) ∧ OwnRows wr w2.heap.size w3.heap.size (.slice a3 (Perms.cycles p).length c3) (Perms.cycles p) ∧ Below w.heap.size w wr ∧ j + gg ≤ (Perms.cycles p).length ∧ (Perms.cycles p).length ≤ j + gg)
  case atStart => exact ⟨0, rfl, o2', o3, b13, by omega, by omega⟩
  case round =>
    obtain ⟨j, rfl, oj, rj, bj, hj1, hj2⟩ := hrel
    by_cases hj : j < (Perms.cycles p).length
    · have hjI : (j : Int) < (Perms.cycles p).length := by omega
      obtain ⟨b7, f7, u, c, e7, hc, hcc, hu⟩ := rj.at.cell (k := j) hj
      cases e7
      obtain ⟨ac, kc, rfl, _, _, _⟩ := hu.form
      have hcb := hcn'.out c (List.mem_of_getElem? hc.out)
      rw [← hn'.out] at hcb
      obtain ⟨m, hm⟩ : ∃ m : Nat, m + 1 = c.length := ⟨c.length - 1, by omega⟩
      have hmI : (c.length : Int) - 1 = m := by omega
      have hmn : (m : Int) < n := by omega
      have hll := Perms.ctTo_len p j
      obtain ⟨x, hx, hcx⟩ := OwnInts.cell oj (k := m) (by rw [hll, ← hn'.out]; omega)
      have hfr := Own.frozen oj m
      have hxb := Perms.ctTo_bd p j x (List.mem_of_getElem? hx.out)
      have hcl := Perms.cycTo_len p p.length
      have hst : Perms.ctTo p (j + 1) = (Perms.ctTo p j).set m (x + 1) := by
        have e1 : (Perms.cycles p).getD j [] = c := by simp [List.getD, hc.out]
        have e2 : c.length - 1 = m := by omega
        have e3 : (Perms.ctTo p j).getD m 0 = x := by simp [List.getD, hx.out]
        rw [Perms.ctTo, e1, e2, e3]
      have os := OwnInts.set oj m (x + 1)
      rw [← hst] at os
      have os' := Lib.hid os
      have hgs := grown_set wr w1.heap.size m (.int .i64 (x + 1))
      have rs := Lib.hid (OwnRows.kept rj (fun k hk1 hk2 hk3 => hgs.block k hk3 (fun e => by have := Option.some.inj e; omega)))
      have bs := bj.grown hgs bj.size (fun b hb => by cases hb; exact b1.size)
      have hjs : (j : Int) ≤ 10 := by
        have hp10 := Perms.permB_len hpb'.out
        have : (Perms.cycles p).length ≤ p.length := by unfold Perms.cycles; rw [if_pos hpb'.out]; exact hcl
        omega
      clear hu hm hll hst os hcb hcl
      go_wp2_with fail
      go_roundg (gk - 1)
      case measure => omega
      case rel => exact ⟨j + 1, by go_num, os'.out, rs.out, bs, by omega, by omega⟩
    · obtain rfl : j = (Perms.cycles p).length := by omega
      have h3 := Lib.hid (H.out _ _ (Own.mono oj b1.size) bj)
      go_wp2_with fail
      exact h3.out
end Go.Proofs.Ytdjdagcgodpgdaa
/- The cycle index of a group, as both sides make it. No program in sight. -/
set_option linter.unusedVariables false
namespace Go.Proofs.Ytdjdagcgodpgdaa.Perms

theorem getD_get {l : List Int} {i : Nat} (h : i < l.length) : l.getD i 0 = l[i] := by simp [List.getD, h]
def addX (xs : List (List Int)) (t : List Int) : List (List Int) := if t ∈ xs then xs else xs ++ [t]
def addC (xs : List (List Int)) (cs : List Int) (t : List Int) : List Int := if t ∈ xs then cs.set (xs.idxOf t) (cs.getD (xs.idxOf t) 0 + 1) else cs ++ [1]
/-- The types and how many there are, in the order in which the program meets them. -/
def ciTo (g : List (List Int)) : Nat → List (List Int) × List Int
  | 0 => ([], [])
  | j + 1 => (addX (ciTo g j).1 (cyt (g.getD j [])), addC (ciTo g j).1 (ciTo g j).2 (cyt (g.getD j [])))
theorem ciTo_len (g : List (List Int)) : ∀ j, (ciTo g j).2.length = (ciTo g j).1.length ∧ (ciTo g j).1.length ≤ j ∧ ∀ c ∈ (ciTo g j).2, 0 ≤ c ∧ c ≤ j
  | 0 => ⟨rfl, Nat.le_refl _, fun c h => by cases h⟩
  | j + 1 => by
    obtain ⟨h1, h2, h3⟩ := ciTo_len g j
    simp only [ciTo, addX, addC]
    split
    · rename_i hm
      refine ⟨by rw [List.length_set, h1], by omega, fun c hc => ?_⟩
      rcases List.mem_or_eq_of_mem_set hc with h | h
      · have := h3 c h; omega
      · have hl : (ciTo g j).1.idxOf (cyt (g.getD j [])) < (ciTo g j).1.length := List.idxOf_lt_length_iff.2 hm
        have e : (ciTo g j).2.getD ((ciTo g j).1.idxOf (cyt (g.getD j []))) 0 = (ciTo g j).2[(ciTo g j).1.idxOf (cyt (g.getD j []))]'(by omega) := getD_get (by omega)
        have := h3 _ (List.getElem_mem (show (ciTo g j).1.idxOf (cyt (g.getD j [])) < (ciTo g j).2.length by omega))
        rw [← e] at this
        omega
    · refine ⟨by simp [h1], by simp; omega, fun c hc => ?_⟩
      rcases List.mem_append.1 hc with h | h
      · have := h3 c h; omega
      · rw [List.mem_singleton] at h; omega
/-- Types in ascending order, each once, with their numbers: what remains when the terms are sorted. -/
structure Sorts (g : List (List Int)) (xs : List (List Int)) (cs : List Int) : Prop where
  len : cs.length = xs.length
  perm : (xs.zip cs).Perm ((ciTo g g.length).1.zip (ciTo g g.length).2)
  asc : xs.Pairwise fun a b => Words.cmpL a b < 0
theorem Sorts.uniq {g xs : List (List Int)} {cs : List Int} (h : Sorts g xs cs) {ys : List (List Int)} {ds : List Int} (hl : ds.length = ys.length) (hp : (ys.zip ds).Perm ((ciTo g g.length).1.zip (ciTo g g.length).2)) (hs : Words.Sorted ys) : ys = xs ∧ ds = cs := by
  have fstz : ∀ (a : List (List Int)) (b : List Int), b.length = a.length → (a.zip b).map Prod.fst = a := fun a b e => List.map_fst_zip (by omega)
  have sndz : ∀ (a : List (List Int)) (b : List Int), b.length = a.length → (a.zip b).map Prod.snd = b := fun a b e => List.map_snd_zip (by omega)
  have hpp := hp.trans h.perm.symm
  have s1 : (ys.zip ds).Pairwise fun a b => ¬ Words.cmpL b.1 a.1 < 0 := by
    have := hs
    unfold Words.Sorted at this
    rw [← fstz ys ds hl, List.pairwise_map] at this
    exact this
  have s2 : (xs.zip cs).Pairwise fun a b => ¬ Words.cmpL b.1 a.1 < 0 := by
    have := h.asc.imp (S := fun a b => ¬ Words.cmpL b a < 0) fun {a b} h => by rw [Words.cmpL_neg]; omega
    rw [← fstz xs cs h.len, List.pairwise_map] at this
    exact this
  have s3 : (xs.zip cs).Pairwise fun a b => Words.cmpL a.1 b.1 < 0 := by
    have := h.asc
    rw [← fstz xs cs h.len, List.pairwise_map] at this
    exact this
  have e : ys.zip ds = xs.zip cs := by
    refine List.Perm.eq_of_pairwise (le := fun a b => ¬ Words.cmpL b.1 a.1 < 0) ?_ s1 s2 hpp
    intro a b ha hb h1 h2
    have ha := hpp.mem_iff.1 ha
    have he : a.1 = b.1 := by
      rw [Words.cmpL_neg] at h1
      exact Words.cmpL_eq (by omega)
    obtain ⟨i, hi, ei⟩ := List.mem_iff_getElem.1 ha
    obtain ⟨j, hj, ej⟩ := List.mem_iff_getElem.1 hb
    rw [List.pairwise_iff_getElem] at s3
    rcases Nat.lt_trichotomy i j with hh | hh | hh
    · have := s3 i j hi hj hh
      rw [ei, ej, he, Words.cmpL_self] at this
      omega
    · subst hh; rw [← ei, ← ej]
    · have := s3 j i hj hi hh
      rw [ei, ej, he, Words.cmpL_self] at this
      omega
  exact ⟨by rw [← fstz ys ds hl, e, fstz xs cs h.len], by rw [← sndz ys ds hl, e, sndz xs cs h.len]⟩
end Go.Proofs.Ytdjdagcgodpgdaa.Perms
/- Slices of terms (a slice of integers and a number each) in memory. -/
set_option linter.unusedVariables false
namespace Go.Proofs.Ytdjdagcgodpgdaa
open Go.RowKit

def cellsT (t : Value × Int) : List Value := [t.1, .int .i64 t.2]
theorem flatT_len (us : List (Value × Int)) : (us.flatMap cellsT).length = us.length * 2 := by
  induction us with
  | nil => rfl
  | cons x us ih => rw [List.flatMap_cons, List.length_append, ih, List.length_cons]; simp [cellsT]; omega
theorem flatT_get : ∀ (us : List (Value × Int)) (k : Nat) (t : Value × Int), us[k]? = some t → (us.flatMap cellsT)[k * 2]? = some t.1 ∧ (us.flatMap cellsT)[k * 2 + 1]? = some (.int .i64 t.2)
  | [], k, t, h => by simp at h
  | x :: us, 0, t, h => by
    simp at h
    subst h
    simp [cellsT]
  | x :: us, k + 1, t, h => by
    rw [List.getElem?_cons_succ] at h
    have ih := flatT_get us k t h
    have e : ∀ m, (List.flatMap cellsT (x :: us))[m + 2]? = (us.flatMap cellsT)[m]? := fun m => by simp [cellsT]
    refine ⟨?_, ?_⟩
    · rw [show (k + 1) * 2 = k * 2 + 2 by omega, e]; exact ih.1
    · rw [show (k + 1) * 2 + 1 = k * 2 + 1 + 2 by omega, e]; exact ih.2
theorem flatT_set : ∀ (us : List (Value × Int)) (k : Nat) (u : Value) (c d : Int), us[k]? = some (u, c) → (us.flatMap cellsT).set (k * 2 + 1) (.int .i64 d) = (us.set k (u, d)).flatMap cellsT
  | [], k, u, c, d, h => by simp at h
  | x :: us, 0, u, c, d, h => by
    simp at h
    subst h
    simp [cellsT]
  | x :: us, k + 1, u, c, d, h => by
    rw [List.getElem?_cons_succ] at h
    have ih := flatT_set us k u c d h
    rw [List.set_cons_succ, List.flatMap_cons, List.flatMap_cons, ← ih]
    rw [List.set_append_right _ _ (by simp [cellsT]; omega)]
    congr 2
    simp [cellsT]
    omega
theorem flatT_take (us : List (Value × Int)) (k : Nat) : (us.take k).flatMap cellsT = (us.flatMap cellsT).take (k * 2) := by
  induction us generalizing k with
  | nil => simp
  | cons x us ih =>
    cases k with
    | zero => simp
    | succ k =>
      rw [List.take_succ_cons, List.flatMap_cons, List.flatMap_cons, ih, show (k + 1) * 2 = k * 2 + 1 + 1 by omega]
      simp [cellsT]
theorem flatT_drop (us : List (Value × Int)) (k : Nat) : (us.drop k).flatMap cellsT = (us.flatMap cellsT).drop (k * 2) := by
  induction us generalizing k with
  | nil => simp
  | cons x us ih =>
    cases k with
    | zero => simp
    | succ k =>
      rw [List.drop_succ_cons, List.flatMap_cons, ih, show (k + 1) * 2 = k * 2 + 1 + 1 by omega]
      simp [cellsT]
/-- v is a slice of terms of the call's own. -/
def OwnT (w : World) (B : Nat) (v : Value) (us : List (Value × Int)) : Prop := w.ownsRow B 64 2 v us.length (us.flatMap cellsT)
theorem OwnT.form {w : World} {B : Nat} {v : Value} {us : List (Value × Int)} (h : OwnT w B v us) : ∃ ao cap, v = .slice ao us.length cap ∧ (us.length : Int) ≤ 9223372036854775807 ∧ us.length ≤ cap ∧ (cap : Int) ≤ 9223372036854775807 := by
  rcases h.2 with ⟨rfl, h2⟩ | ⟨g, cap, cur, rfl, h1, h2, h3, h4, h5, h6⟩
  · exact ⟨none, 0, by rw [h2], by omega, by omega, by decide⟩
  · refine ⟨_, cap, rfl, ?_, h3, ?_⟩ <;> (unfold maxLen at h4; omega)
theorem OwnT.lt {w : World} {B : Nat} {v : Value} {us : List (Value × Int)} (h : OwnT w B v us) {k : Nat} (hk : v.ownBlock = some k) : B ≤ k ∧ k < w.heap.size := World.ownsRow.lt h k hk
theorem OwnT.kept {w w' : World} {B : Nat} {v : Value} {us : List (Value × Int)} (h : OwnT w B v us) (hw : ∀ k, v.ownBlock = some k → w'.heap[k]? = w.heap[k]?) : OwnT w' B v us := by
  rcases h.2 with ⟨rfl, h2⟩ | ⟨g, cap, cur, rfl, h1, h2, h3⟩
  · exact ⟨h.1, .inl ⟨rfl, h2⟩⟩
  · exact ⟨h.1, .inr ⟨g, cap, cur, rfl, h1, (hw g rfl).trans h2, h3⟩⟩
theorem OwnT.below {w w' : World} {B : Nat} {v : Value} {us : List (Value × Int)} (h : OwnT w B v us) (hb : Below w.heap.size w w') : OwnT w' B v us := h.kept fun k hk => hb.block k (h.lt hk).2
theorem OwnT.drawn {w w' : World} {B : Nat} {v : Value} {us : List (Value × Int)} (h : OwnT w B v us) (hd : Drawn w w') : OwnT w' B v us := h.kept fun k _ => by rw [hd.heap]
theorem OwnT.mono {w : World} {B B' : Nat} {v : Value} {us : List (Value × Int)} (h : OwnT w B v us) (hB : B' ≤ B) : OwnT w B' v us := by
  rcases h.2 with ⟨rfl, h2⟩ | ⟨g, cap, cur, rfl, h1, h2, h3⟩
  · exact ⟨h.1, .inl ⟨rfl, h2⟩⟩
  · exact ⟨h.1, .inr ⟨g, cap, cur, rfl, by omega, h2, h3⟩⟩
theorem OwnT.head {w : World} {B : Nat} {ao : Option Addr} {n cap : Nat} {us : List (Value × Int)} (h : OwnT w B (.slice ao n cap) us) (hn : 0 < us.length) : ∃ g, ao = some ⟨g, 0, none⟩ ∧ B ≤ g ∧ g < w.heap.size := by
  rcases h.2 with ⟨he, h2⟩ | ⟨g, cap', cur, he, h1, h2, h3⟩
  · omega
  · simp only [Value.slice.injEq] at he
    exact ⟨g, he.1, h1, (Array.getElem?_eq_some_iff.1 h2).1⟩
theorem OwnT.block {w : World} {B : Nat} {v : Value} {us : List (Value × Int)} (h : OwnT w B v us) {k : Nat} (hk : v.ownBlock = some k) : ∃ cur, w.heap[k]? = some (.cells cur 64 (0, 0)) := by
  rcases h.2 with ⟨rfl, _⟩ | ⟨g, cap, cur, rfl, h1, h2, h3⟩
  · simp [Value.ownBlock] at hk
  · simp only [Value.ownBlock, Option.some.injEq] at hk
    subst hk
    exact ⟨cur, h2⟩
/-- The two cells of a term. -/
theorem OwnT.cells {w : World} {B : Nat} {g n cap : Nat} {us : List (Value × Int)} (h : OwnT w B (.slice (some ⟨g, 0, none⟩) n cap) us) {k : Nat} {u : Value} {c : Int} (hk : us[k]? = some (u, c)) :
    w.cell? ⟨g, k * 2, none⟩ = some u ∧ w.cell? ⟨g, k * 2 + 1, none⟩ = some (.int .i64 c) := by
  rcases h.2 with ⟨he, h2⟩ | ⟨g', cap', cur, he, h1, h2, h3, h4, h5, h6⟩
  · cases he
  · simp only [Value.slice.injEq] at he
    obtain ⟨e1, _, rfl⟩ := he
    obtain rfl : g = g' := by simpa using e1
    have hk1 := (List.getElem?_eq_some_iff.1 hk).1
    have hc : ∀ m, m < us.length * 2 → w.cell? ⟨g, m, none⟩ = (us.flatMap cellsT)[m]? := fun m hm => by
      rw [← h6, List.getElem?_take, if_pos hm]
      simp [World.cell?, h2]
    have hf := flatT_get us k _ hk
    exact ⟨(hc _ (by omega)).trans hf.1, (hc _ (by omega)).trans hf.2⟩
theorem OwnT.len {w : World} {B : Nat} {ao : Option Addr} {n cap : Nat} {us : List (Value × Int)} (h : OwnT w B (.slice ao n cap) us) : n = us.length := by
  obtain ⟨_, _, e, _⟩ := h.form
  simp only [Value.slice.injEq] at e
  exact e.2.1
theorem OwnT.frozen {w : World} {B : Nat} {g n cap : Nat} {us : List (Value × Int)} (h : OwnT w B (.slice (some ⟨g, 0, none⟩) n cap) us) (k : Nat) : w.frozen? ⟨g, k, none⟩ = false := by
  obtain rfl := h.len
  exact World.ownsRow.frozenAt h k
/-- Another number in a term. -/
theorem OwnT.setCount {w : World} {B : Nat} {g n cap : Nat} {us : List (Value × Int)} (h : OwnT w B (.slice (some ⟨g, 0, none⟩) n cap) us) {k : Nat} {u : Value} {c : Int} (hk : us[k]? = some (u, c)) (d : Int) :
    OwnT (w.setCell ⟨g, k * 2 + 1, none⟩ (.int .i64 d)) B (.slice (some ⟨g, 0, none⟩) n cap) (us.set k (u, d)) := by
  obtain rfl := h.len
  have h1 := World.ownsRow.stored h (k * 2 + 1) (.int .i64 d)
  rw [flatT_set us k u c d hk] at h1
  unfold OwnT
  rw [List.length_set]
  exact h1.1
theorem ownT_empty (w : World) : OwnT (w.alloc (.cells #[] 64)) w.heap.size (.slice (some ⟨w.heap.size, 0, none⟩) 0 0) [] :=
  World.ownsRow_lit (size := 2) w #[] 0 (Nat.le_refl _) (by unfold maxLen; omega) rfl
theorem OwnT.nil (w : World) (B : Nat) : OwnT w B (.slice none 0 0) [] := World.ownsRow_nil w B 64 2
theorem Try.infoTerm : (Try.prog.info? 64).map (fun i => (i.zero, i.size, i.bytes)) = some (some (.agg #[.slice none 0 0, .int .i64 0]), 2, 32) := by kernel_rfl
theorem info_partsT {P : Program} {e : TypeId} {z : Value} {s b : Nat} (h : (P.info? e).map (fun i => (i.zero, i.size, i.bytes)) = some (some z, s, b)) : ∃ i, P.info? e = some i ∧ i.zero = some z ∧ i.size = s ∧ i.bytes = b := by
  obtain ⟨i, hi, h2⟩ := Option.map_eq_some_iff.1 h
  simp only [Prod.mk.injEq] at h2
  exact ⟨i, hi, h2.1, h2.2.1, h2.2.2⟩
/-- append of terms that lie somewhere. -/
theorem appT {w : World} {ops : Array Oper} {rest : List Oper} {o : Oper} {a : Act} {Q : Exit → Act → World → Prop} (hg : o.guard = none) (s x : Operand) (hop : o.op = .call { callee := .builtin .append, args := #[s, x], argTypes := #[36, 36] })
    {B : Nat} {v : Value} {us ts : List (Value × Int)} {ad : Addr} {m c : Nat} (hs : a.eval s = v) (hown : OwnT w B v us) (hx : a.eval x = .slice (some ad) m c) (hm : m = ts.length)
    (hA : ∀ j u, (ts.flatMap cellsT)[j]? = some u → w.cell? (ad.add j) = some u) (h1 : ∀ t ∈ ts, t.1.oneCell' = true)
    (hn : us.length + ts.length ≤ 1000000) (hB : B ≤ w.heap.size)
    (hK : ∀ v' w', OwnT w' B v' (us ++ ts) → w.grownBy w' v.ownBlock → wpList Try.prog ops Q rest (a.put o.dst v') w') :
    wpList Try.prog ops Q (o :: rest) a w := by
  obtain ⟨i0, hi, hz0, hz1, hz2⟩ := info_partsT Try.infoTerm
  refine wpList_append_own w hg s x 36 hop B 64 i0 _ 2 32 Try.underlying36 hi hz0 hz1 hz2 rfl (by decide) v us.length _ hs hown ad m c (ts.flatMap cellsT) hx (by rw [hm, flatT_len]) hA ?_ (by unfold maxLen; omega) (by omega) hB ?_
  · intro u hu
    obtain ⟨t, ht, hu⟩ := List.mem_flatMap.1 hu
    simp [cellsT] at hu
    rcases hu with rfl | rfl
    · exact h1 t ht
    · rfl
  · intro v' w' ho hgr _
    refine hK v' w' ?_ hgr
    unfold OwnT
    rw [List.length_append, List.flatMap_append, ← hm]
    exact ho
/-- The rows of terms lie in blocks of another type. -/
theorem Rows.outerT {w w' : World} {B E : Nat} {us : List Value} {xss : List (List Int)} (h : Rows w B E us xss) {B' : Nat} {v : Value} {zs : List (Value × Int)} (ho : OwnT w B' v zs) (hg : w.grownBy w' v.ownBlock) : Rows w' B E us xss := by
  obtain ⟨h1, h2, h3⟩ := h
  refine ⟨h1, fun k xs hk => ?_, h3⟩
  obtain ⟨u, a, b, c⟩ := h2 k xs hk
  refine ⟨u, a, Own.kept b fun q hq => hg.block q (Own.lt b hq).2 fun e => ?_, c⟩
  obtain ⟨c1, e1⟩ := Own.block b hq
  obtain ⟨c2, e2⟩ := ho.block e.symm
  rw [e1] at e2
  simp only [Option.some.injEq, Obj.cells.injEq] at e2
  exact absurd e2.2.1 (by decide)
/-- v is a slice of terms of the call's own, with its rows. -/
def OwnTerms (w : World) (B E : Nat) (v : Value) (xs : List (List Int)) (cs : List Int) : Prop := cs.length = xs.length ∧ ∃ us, OwnT w B v (us.zip cs) ∧ inB v E ∧ Rows w B E us xs
theorem inB_lt {w : World} {B : Nat} {v : Value} {us : List (Value × Int)} (h : OwnT w B v us) : inB v w.heap.size := fun k hk => (h.lt hk).2
theorem OwnTerms.below {w w' : World} {B E : Nat} {v : Value} {xs : List (List Int)} {cs : List Int} (h : OwnTerms w B E v xs cs) (hb : Below w.heap.size w w') : OwnTerms w' B E v xs cs := by
  obtain ⟨h0, us, h1, h2, h3⟩ := h
  exact ⟨h0, us, h1.below hb, h2, h3.below hb⟩
theorem OwnTerms.drawn {w w' : World} {B E : Nat} {v : Value} {xs : List (List Int)} {cs : List Int} (h : OwnTerms w B E v xs cs) (hd : Drawn w w') : OwnTerms w' B E v xs cs := by
  obtain ⟨h0, us, h1, h2, h3⟩ := h
  exact ⟨h0, us, h1.drawn hd, h2, h3.drawn hd⟩
theorem OwnTerms.mono {w : World} {B B' E E' : Nat} {v : Value} {xs : List (List Int)} {cs : List Int} (h : OwnTerms w B E v xs cs) (hB : B' ≤ B) (hE : E ≤ E') : OwnTerms w B' E' v xs cs := by
  obtain ⟨h0, us, h1, h2, h3⟩ := h
  exact ⟨h0, us, h1.mono hB, fun k hk => Nat.lt_of_lt_of_le (h2 k hk) hE, h3.mono hB hE⟩
theorem OwnTerms.form {w : World} {B E : Nat} {v : Value} {xs : List (List Int)} {cs : List Int} (h : OwnTerms w B E v xs cs) : ∃ ao cap, v = .slice ao xs.length cap ∧ (xs.length : Int) ≤ 9223372036854775807 ∧ xs.length ≤ cap ∧ (cap : Int) ≤ 9223372036854775807 := by
  obtain ⟨h0, us, h1, h2, h3⟩ := h
  obtain ⟨ao, cap, e, f⟩ := h1.form
  have hl : (us.zip cs).length = xs.length := by rw [List.length_zip, h0, h3.1, Nat.min_self]
  rw [hl] at e f
  exact ⟨ao, cap, e, f⟩
theorem OwnTerms.nil (w : World) (B E : Nat) : OwnTerms w B E (.slice none 0 0) [] [] := ⟨rfl, [], OwnT.nil w B, fun k hk => by simp [Value.ownBlock] at hk, Rows.nil w B E⟩
/-- A term: its cells and its row. -/
theorem OwnTerms.cell {w : World} {B E : Nat} {ao : Option Addr} {n cap : Nat} {xs : List (List Int)} {cs : List Int} (h : OwnTerms w B E (.slice ao n cap) xs cs) {k : Nat} (hk : k < xs.length) :
    ∃ g u x c, ao = some ⟨g, 0, none⟩ ∧ Hid (xs[k]? = some x) ∧ Hid (cs[k]? = some c) ∧ w.cell? ⟨g, k * 2, none⟩ = some u ∧ w.cell? ⟨g, k * 2 + 1, none⟩ = some (.int .i64 c) ∧ IntsAt w u x ∧ (∀ j, w.frozen? ⟨g, j, none⟩ = false) := by
  obtain ⟨h0, us, h1, h2, h3⟩ := h
  have hl : (us.zip cs).length = xs.length := by rw [List.length_zip, h0, h3.1, Nat.min_self]
  obtain ⟨g, rfl, _, _⟩ := h1.head (by omega)
  obtain ⟨u, x, hu, hx, ho, _⟩ := h3.get hk
  have hc : cs[k]? = some cs[k] := List.getElem?_eq_getElem (by omega)
  have hz : (us.zip cs)[k]? = some (u, cs[k]) := by rw [List.getElem?_zip_eq_some]; exact ⟨hu.out, hc⟩
  obtain ⟨c1, c2⟩ := h1.cells hz
  exact ⟨g, u, x, cs[k], rfl, hx, Lib.hid hc, c1, c2, OwnInts.at ho, h1.frozen⟩
end Go.Proofs.Ytdjdagcgodpgdaa
/- Where a type stands among terms: slices.IndexFunc with the program's closure. -/
set_option linter.unusedVariables false
namespace Go.Proofs.Ytdjdagcgodpgdaa
open Go.RowKit

set_option maxHeartbeats 800000 in
theorem idxClos_c {u vt : Value} {c : Int} {t t' : List Int} {b : Nat} {w : World} {Q : Ending → World → Prop} (hu : IntsAt w u t) (hbx : BoxAt w b 38 vt) (ht : IntsAt w vt t')
    (hQ : ∀ w', Below w.heap.size w w' → Q (.returned (.bool (decide (t = t')))) w') :
    Calls Try.prog 77 #[.agg #[u, .int .i64 c], .pointer (some ⟨b, 0, none⟩)] w Q := by
  have H := Lib.hid hQ; clear hQ
  have hu0 := Lib.hid hu
  have ht0 := Lib.hid ht
  obtain ⟨au, cu, rfl, _, _, _⟩ := hu.form
  obtain ⟨at', ct, rfl, _, _, _⟩ := ht.form
  have ba := below_alloc w (.cells #[.slice au t.length cu, .int .i64 c] 64)
  have hbc := (hbx.below ba).cell
  have hu1 := Lib.hid (hu0.out.below ba)
  have ht1 := Lib.hid (ht0.out.below ba)
  clear hu ht
  go_enter Try.func77, Try.ntmps77
  go_wp2_with fail
  refine Equal_c hu1.out ht1.out ?_
  intro w2 d2
  have h3 := Lib.hid (H.out w2 (ba.trans (d2.below _)))
  go_wp2_with fail
  exact h3.out
theorem Perms.idx_first {xs : List (List Int)} {t : List Int} {j : Nat} (h : ∀ (i : Nat) y, i < j → xs[i]? = some y → decide (y = t) = false) (hj : xs[j]? = some t) : Perms.idx xs t = j := by
  have hm := List.mem_of_getElem? hj
  unfold Perms.idx
  rw [if_pos hm]
  have hl : xs.idxOf t < xs.length := List.idxOf_lt_length_iff.2 hm
  have he : xs[xs.idxOf t]? = some t := by rw [List.getElem?_eq_getElem hl, List.getElem_idxOf]
  have hle : j ≤ xs.idxOf t := Nat.le_of_not_lt fun hlt => by
    have := h _ t hlt he
    simp at this
  have hge : xs.idxOf t ≤ j := Nat.le_of_not_lt fun hlt => by
    have := List.not_of_lt_findIdx (p := (· == t)) (xs := xs) (i := j) hlt
    rw [(List.getElem?_eq_some_iff.1 hj).2] at this
    simp at this
  omega
set_option maxHeartbeats 1600000 in
theorem findT_c {va vt : Value} {xs : List (List Int)} {cs : List Int} {t : List Int} {b B E : Nat} {w : World} {Q : Ending → World → Prop} (ho : OwnTerms w B E va xs cs) (hbx : BoxAt w b 38 vt) (ht : IntsAt w vt t)
    (hQ : ∀ w', Below w.heap.size w w' → Q (.returned (.int .i64 (Perms.idx xs t))) w') :
    Calls Try.prog 76 #[va, .func (.func 77) #[] #[.pointer (some ⟨b, 0, none⟩)]] w Q := by
  have H := Lib.hid hQ; clear hQ
  obtain ⟨aa, ca, rfl, la, lca, cca⟩ := ho.form
  have eg : ∀ args w, (callFunc 77 args).run Try.prog w = .ok (.enter 77 args) w := fun args w => enters_of Try.func77 (by kernel_rfl) rfl args w
  go_enter Try.func76, Try.ntmps76
  go_wp2_with fail
  go_loopg [8] xs.length (fun g i wr => Below w.heap.size w wr ∧ ∃ j : Nat, i = .int .i64 j ∧ Hid (∀ (i : Nat) y, i < j → xs[i]? = some y → decide (y = t) = false) ∧ j + g ≤ xs.length ∧ xs.length ≤ j + g)
  case atStart => exact ⟨Below.refl _ _, 0, rfl, Lib.hid (fun t ys h => by omega), by omega, by omega⟩
  case round =>
    obtain ⟨hb, j, rfl, hg, hk1, hk2⟩ := hrel
    by_cases hj : j < xs.length
    · obtain ⟨g0, u, x, c, e0, hx, hc, hc1, hc2, hi, _⟩ := (ho.below hb).cell (k := j) hj
      cases e0
      have i1 : (j : Int) < xs.length := by omega
      obtain ⟨au, cu, rfl, _, _, _⟩ := hi.form
      have hi' := Lib.hid hi
      have hbxr := hbx.below hb
      have htr := Lib.hid (ht.below hb)
      clear hi
      cases hp0 : decide (x = t) with
      | true =>
        have hp := Lib.hid hp0
        have hix : Hid (Perms.idx xs t = j) := Lib.hid (Perms.idx_first hg.out (by rw [← of_decide_eq_true hp0]; exact hx.out))
        clear hp0
        go_wp2_with (go_at_fn 77; refine idxClos_c hi'.out hbxr htr.out ?_; intro w2 b2; rw [hp.out])
        have h3 := H.out w2 (hb.trans (b2.mono hb.size))
        rw [hix.out] at h3
        exact h3
      | false =>
        have hp := Lib.hid hp0
        clear hp0
        have hg2 : Hid (∀ (i : Nat) y, i < j + 1 → xs[i]? = some y → decide (y = t) = false) := Lib.hid (fun i y hi hy => by
          by_cases e : i < j
          · exact hg.out i y e hy
          · obtain rfl : i = j := by omega
            rw [hx.out] at hy
            cases hy
            exact hp.out)
        go_wp2_with (go_at_fn 77; refine idxClos_c hi'.out hbxr htr.out ?_; intro w2 b2; rw [hp.out])
        go_roundg (gk - 1)
        case measure => omega
        case rel => exact ⟨hb.trans (b2.mono hb.size), j + 1, by go_num, hg2, by omega, by omega⟩
    · have hn : Perms.idx xs t = -1 := by
        unfold Perms.idx
        rw [if_neg]
        intro hm
        obtain ⟨i, hi⟩ := List.getElem?_of_mem hm
        have := hg.out i t (by have := (List.getElem?_eq_some_iff.1 hi).1; omega) hi
        simp at this
      have h3 := H.out wr hb
      rw [hn] at h3
      have h3' := Lib.hid h3
      clear h3 hn
      go_wp2_with fail
      exact h3'.out
end Go.Proofs.Ytdjdagcgodpgdaa
/- The subsets of four points, as the program lists them. -/
set_option linter.unusedVariables false
namespace Go.Proofs.Ytdjdagcgodpgdaa
open Go.RowKit

def Perms.bitRow (s i : Nat) : List Int := ((List.range i).filter fun (a : Nat) => decide (s / 2 ^ a % 2 = 1)).map fun (a : Nat) => (a : Int)
def Perms.bitTo (s : Nat) : List (List Int) := ((List.range s).map fun t => Perms.bitRow t 4).filter fun r => decide (r.length = 2)
theorem Perms.bits_all : Perms.isort (Perms.bitTo 16) = Perms.subs 2 0 := by decide +kernel
theorem Perms.bitTo_small : ∀ s ∈ List.range 17, (Perms.bitTo s).length ≤ 6 := by decide +kernel
theorem Perms.bitRow_step (s i : Nat) : Perms.bitRow s (i + 1) = if s / 2 ^ i % 2 = 1 then Perms.bitRow s i ++ [(i : Int)] else Perms.bitRow s i := by
  unfold Perms.bitRow
  rw [List.range_succ, List.filter_append]
  by_cases h : s / 2 ^ i % 2 = 1
  · simp [h]
  · simp [h]
theorem Perms.bitTo_step (s : Nat) : Perms.bitTo (s + 1) = if (Perms.bitRow s 4).length = 2 then Perms.bitTo s ++ [Perms.bitRow s 4] else Perms.bitTo s := by
  unfold Perms.bitTo
  rw [List.range_succ, List.map_append, List.filter_append]
  by_cases h : (Perms.bitRow s 4).length = 2
  · simp [h]
  · simp [h]
theorem Perms.bitRow_len (s i : Nat) : (Perms.bitRow s i).length ≤ i := by
  unfold Perms.bitRow
  rw [List.length_map]
  have := List.length_filter_le (fun (a : Nat) => decide (s / 2 ^ a % 2 = 1)) (List.range i)
  rw [List.length_range] at this
  exact this
theorem and1 (n : Int) : bits .and .i64 n 1 = n % 2 := by
  have h1 : (BitVec.ofInt 64 1).toNat = 2 ^ 1 - 1 := by decide
  have key : (BitVec.ofInt 64 n &&& BitVec.ofInt 64 1).toNat = (n % ((2 ^ 64 : Nat) : Int)).toNat % 2 ^ 1 := by
    rw [BitVec.toNat_and, BitVec.toNat_ofInt, h1, Nat.and_two_pow_sub_one_eq_mod]
  show IntKind.i64.wrap ((BitVec.ofInt 64 n &&& BitVec.ofInt 64 1).toNat : Nat) = n % 2
  rw [key, IntKind.wrap_i64]
  omega
theorem bit_at (s i : Nat) : bits .and .i64 ((s : Int) / 2 ^ i) 1 = ((s / 2 ^ i % 2 : Nat) : Int) := by
  rw [and1, Int.natCast_emod, Int.natCast_ediv, Int.natCast_pow]
  rfl
set_option maxHeartbeats 3200000 in
theorem subsetsOf_c {w : World} {Q : Ending → World → Prop}
    (hQ : ∀ v w', OwnRows w' w.heap.size w'.heap.size v (Perms.subs 2 0) → Below w.heap.size w w' → Q (.returned v) w') :
    Calls Try.prog 89 #[.int .i64 4, .int .i64 2] w Q := by
  have H := Lib.hid hQ; clear hQ
  go_enter Try.func89, Try.ntmps89
  go_wp2_with fail
  have o0 := own_outer_empty w
  have b0 := below_alloc w (.cells #[] 38)
  have r0 := Lib.hid (Rows.nil (w.alloc (.cells #[] 38)) w.heap.size (w.alloc (.cells #[] 38)).heap.size)
  go_loopg [5, 27] 16 (fun gg u5 u27 wr => ∃ (s : Nat) (us : List Value), u27 = .int .i64 s ∧ Own wr w.heap.size 38 u5 us ∧ Hid (Rows wr w.heap.size wr.heap.size us (Perms.bitTo s)) ∧ Below w.heap.size w wr ∧ s + gg = 16)
  case atStart => exact ⟨0, [], rfl, o0, r0, b0, rfl⟩
  case round =>
    obtain ⟨s, us, rfl, oj, rj, bj, hs⟩ := hrel
    obtain ⟨gk1, hgk1⟩ : ∃ g, g = gk := ⟨_, rfl⟩
    obtain ⟨a5, c5, rfl, _, _, _⟩ := Own.form oj
    by_cases hs16 : s < 16
    · have hsI : (s : Int) < 16 := by omega
      have hts := Perms.bitTo_small s (List.mem_range.2 (by omega))
      have hul : us.length ≤ 6 := by rw [rj.out.1]; exact hts
      go_wp2_with fail
      have o1 := own_empty wr
      have b1 := below_alloc wr (.cells #[] 3)
      obtain ⟨V, hV⟩ : ∃ V, V = wr := ⟨_, rfl⟩
      have BJ : Below w.heap.size w V := by rw [hV]; exact bj
      have RJ : Hid (Rows V w.heap.size V.heap.size us (Perms.bitTo s)) := by rw [hV]; exact rj
      have OJ : Own V w.heap.size 38 (.slice a5 us.length c5) us := by rw [hV]; exact oj
      have b1' : Below V.heap.size V (wr.alloc (.cells #[] 3)) := by rw [hV]; exact b1
      have o1' : OwnInts (wr.alloc (.cells #[] 3)) V.heap.size (.slice (some ⟨wr.heap.size, 0, none⟩) 0 0) [] := by rw [hV]; exact o1
      clear hV
      go_loopg [7, 32] 4 (fun gg u7 u32 w2 => ∃ (i : Nat), u32 = .int .i64 i ∧ OwnInts w2 V.heap.size u7 (Perms.bitRow s i) ∧ Below V.heap.size V w2 ∧ i + gg = 4)
      case atStart => exact ⟨0, rfl, o1', b1', rfl⟩
      case round =>
        obtain ⟨i, rfl, oi, bi, hi⟩ := hrel
        obtain ⟨a7, c7, rfl, _, _, _⟩ := Own.form oi
        have hbl := Perms.bitRow_len s i
        by_cases hi4 : i < 4
        · have hiI : (i : Int) < 4 := by omega
          have hst := Perms.bitRow_step s i
          by_cases hb : s / 2 ^ i % 2 = 1
          · rw [if_pos hb] at hst
            have hst' := Lib.hid hst
            clear hst
            have hbit : bits .and .i64 ((s : Int) / 2 ^ i) 1 = 1 := by rw [bit_at, hb]; rfl
            clear hb
            go_wp2_with (at_builtin; refine app_int rfl (.tmp 40) (.tmp 42) rfl rfl (OwnInts.below oi (below_alloc wr _)) rfl (cell_new _ _ _) (by omega) (by have := bi.size; simp; omega) ?_; intro v3 w3 o3 g3)
            rw [← hst'.out] at o3
            have bi3 := (bi.alloc bi.size (.cells #[.int .i64 (i : Int)] 3)).grown g3 (by have := bi.size; simp; omega) (fun b hb => (Own.lt oi hb).1)
            go_roundg (gk - 1)
            case measure => omega
            case rel => exact ⟨i + 1, by go_num, o3, bi3, by omega⟩
          · rw [if_neg hb] at hst
            have hst' := Lib.hid hst
            have hb0 : s / 2 ^ i % 2 = 0 := by omega
            have hbit : bits .and .i64 ((s : Int) / 2 ^ i) 1 = 0 := by rw [bit_at, hb0]; rfl
            have oi2 : Hid (OwnInts wr V.heap.size (.slice a7 (ints (Perms.bitRow s i)).length c7) (Perms.bitRow s (i + 1))) := Lib.hid (by rw [hst'.out]; exact oi)
            clear hst hb hb0
            go_wp2_with fail
            go_roundg (gk - 1)
            case measure => omega
            case rel => exact ⟨i + 1, by go_num, oi2.out, bi, by omega⟩
        · obtain rfl : i = 4 := by omega
          have hst := Perms.bitTo_step s
          have oj2 := Own.below OJ bi
          by_cases hl2 : (Perms.bitRow s 4).length = 2
          · rw [if_pos hl2] at hst
            have hst' := Lib.hid hst
            have hl2I : ((ints (Perms.bitRow s 4)).length : Int) = 2 := by rw [ints_len, hl2]; rfl
            obtain ⟨y, hy⟩ : ∃ y, y = Perms.bitRow s 4 := ⟨_, rfl⟩
            rw [← hy] at oi hst' hl2I ⊢
            have hone : Hid (∀ y' ∈ [Value.slice a7 (ints y).length c7], y'.oneCell' = true) := Lib.hid (fun y' hy' => by rw [List.mem_singleton] at hy'; rw [hy']; rfl)
            have ba := below_alloc wr (.cells #[.slice a7 (ints y).length c7] 38)
            have oj3 := Own.below oj2 ba
            have hr3 := row_one wr (.slice a7 (ints y).length c7) 38
            have bj3 := (BJ.trans (bi.mono BJ.size)).trans (ba.mono (BJ.trans (bi.mono BJ.size)).size)
            have oy := Lib.hid (OwnInts.below oi ba)
            have rj3 := Lib.hid ((RJ.out.below bi).below ba)
            clear hl2 hst hy
            clear oj2 ba
            go_wp2_with (at_builtin; refine app_outer rfl (.tmp 49) (.tmp 51) rfl rfl oj3 rfl hr3 hone.out (by show us.length + 1 ≤ 1099511627776; omega) bj3.size ?_; intro v3 w3 o3 g3)
            have rj4 := Lib.hid ((((rj3.out).push (xs := y) (OwnInts.mono oy.out BJ.size) (fun b hb => (Own.lt oy.out hb).1)).outer oj3 g3).tight)
            have bj4 := bj3.grown g3 (by have := BJ.size; have := bi.size; simp; omega) (fun b hb => (Own.lt oj3 hb).1)
            rw [← hst'.out] at rj4
            go_roundg (gk1 - 1)
            case measure => omega
            case rel => exact ⟨s + 1, _, by go_num, o3, rj4, bj4, by omega⟩
          · rw [if_neg hl2] at hst
            have hst' := Lib.hid hst
            have hl2I : ((ints (Perms.bitRow s 4)).length : Int) ≠ 2 := by rw [ints_len]; omega
            have rj4 : Hid (Rows wr w.heap.size wr.heap.size us (Perms.bitTo (s + 1))) := Lib.hid (by rw [hst'.out]; exact (RJ.out.below bi).tight)
            have bj4 := BJ.trans (bi.mono BJ.size)
            clear hst hl2
            go_wp2_with fail
            go_roundg (gk1 - 1)
            case measure => omega
            case rel => exact ⟨s + 1, _, by go_num, oj2, rj4, bj4, by omega⟩
    · obtain rfl : s = 16 := by omega
      have hown : Hid (OwnRows wr w.heap.size wr.heap.size (.slice a5 us.length c5) (Perms.bitTo 16)) := Lib.hid (rj.out.whole oj (Own.inBlk oj))
      have hl6 : (Perms.bitTo 16).length = 6 := by decide +kernel
      clear oj rj
      have bjs := bj.size
      have hl6' : 0 < (Perms.bitTo 16).length := by omega
      go_wp2_with fail
      refine sortRows_c hown.out bjs hl6' (by omega) ?_
      intro w2 yss hp2 hs2 ho2 hb2
      obtain rfl : yss = Perms.subs 2 0 := by rw [← Perms.bits_all]; exact sorted_unique (hp2.trans (Perms.isort_perm _).symm) hs2 (Perms.isort_sorted _)
      have h3 := Lib.hid (H.out _ _ ho2 (bj.trans hb2))
      clear hp2 hs2 ho2
      go_wp2_with fail
      exact h3.out
end Go.Proofs.Ytdjdagcgodpgdaa
/- What a permutation of four points does to pairs of them, as the reference finds it. -/
set_option linter.unusedVariables false
namespace Go.Proofs.Ytdjdagcgodpgdaa
open Go.RowKit

def Perms.inTo (L : List (List Int)) (Y : List Int) (t : Nat) : List Int := ((List.range t).filter fun (q : Nat) => decide (L[q]? = some Y)).map fun (q : Nat) => (q : Int)
def Perms.pairTo (p : List Int) (j : Nat) : List Int := ((Perms.subs 2 0).take j).flatMap fun x => Perms.inTo (Perms.subs 2 0) (Perms.imgTo p x 4) (Perms.subs 2 0).length
def Perms.pairAct (p : List Int) : List Int := Perms.pairTo p (Perms.subs 2 0).length
theorem Perms.inTo_step {L : List (List Int)} {Y z : List Int} {t : Nat} (hz : L[t]? = some z) : Perms.inTo L Y (t + 1) = if Y = z then Perms.inTo L Y t ++ [(t : Int)] else Perms.inTo L Y t := by
  unfold Perms.inTo
  rw [List.range_succ, List.filter_append]
  by_cases h : Y = z
  · simp [h, hz]
  · have h2 : ¬ z = Y := fun e => h e.symm
    simp [h, h2, hz]
theorem Perms.inTo_len (L : List (List Int)) (Y : List Int) (t : Nat) : (Perms.inTo L Y t).length ≤ t := by
  unfold Perms.inTo
  rw [List.length_map]
  have := List.length_filter_le (fun (q : Nat) => decide (L[q]? = some Y)) (List.range t)
  rw [List.length_range] at this
  exact this
theorem Perms.pairTo_step {p x : List Int} {j : Nat} (hx : (Perms.subs 2 0)[j]? = some x) : Perms.pairTo p (j + 1) = Perms.pairTo p j ++ Perms.inTo (Perms.subs 2 0) (Perms.imgTo p x 4) (Perms.subs 2 0).length := by
  unfold Perms.pairTo
  rw [List.take_add_one, hx, List.flatMap_append]
  simp
theorem Perms.pairTo_len (p : List Int) : ∀ j : Nat, j ≤ 6 → (Perms.pairTo p j).length ≤ 6 * j
  | 0, _ => by simp [Perms.pairTo]
  | j + 1, h => by
    have ih := Perms.pairTo_len p j (by omega)
    have hl : (Perms.subs 2 0).length = 6 := by decide
    rw [Perms.pairTo_step (List.getElem?_eq_getElem (by omega)), List.length_append]
    have := Perms.inTo_len (Perms.subs 2 0) (Perms.imgTo p ((Perms.subs 2 0)[j]'(by omega)) 4) (Perms.subs 2 0).length
    omega
theorem Perms.subs_rng : ∀ x ∈ Perms.subs 2 0, ∀ c ∈ x, 0 ≤ c ∧ c < ((4 : Nat) : Int) := by decide
theorem subs_pairs {w : World} {Q : Ending → World → Prop} (hQ : ∀ v w', OwnRows w' w.heap.size w'.heap.size v (Perms.subs 2 0) → Below w.heap.size w w' → Q (.returned v) w') :
    Calls Try.prog 109 #[.int .i64 0, .int .i64 4, .int .i64 2] w Q := subs_two 0 w Q (by omega) hQ
set_option maxHeartbeats 3200000 in
theorem SubsetAction_c {vp : Value} {p : List Int} {w : World} {Q : Ending → World → Prop} (hp : IntsAt w vp p) (hR : Perms.inR 4 p) (hok : Perms.permB p = true)
    (hQ : ∀ v w', OwnInts w' w.heap.size v (Perms.pairAct p) → Below w.heap.size w w' → Q (.returned (.tuple #[v, .bool true])) w') :
    Calls Try.prog 85 #[vp, .int .i64 2] w Q := by
  have H := Lib.hid hQ; clear hQ
  obtain ⟨ap, cp, rfl, _, _, _⟩ := hp.form
  have hpl := hR.1
  rw [hpl] at hp ⊢
  have hp1 := Lib.hid hp
  have hR' := Lib.hid hR
  have hok' := Lib.hid hok
  clear hp hR hok hpl
  go_enter Try.func85, Try.ntmps85
  go_wp2_with fail
  refine PermOk_s hp1.out ?_
  intro w1 b1
  rw [hok'.out]
  have hd : Hid (decide ((0 : Int) ≤ 2 ∧ (2 : Int) ≤ 4) = true) := Lib.hid (by decide)
  have hp2 := Lib.hid (hp1.out.below b1)
  go_wp2_with (go_at_call 51; refine l01In_c ?_; rw [decide_eq_true (show (0 : Int) ≤ 2 ∧ (2 : Int) ≤ _ by omega)])
  refine subs_pairs ?_
  intro v2 w2 o2 b2
  obtain ⟨L, hL⟩ : ∃ L, L = Perms.subs 2 0 := ⟨_, rfl⟩
  have hLl : L.length ≤ 6 ∧ 6 ≤ L.length := by rw [hL]; decide
  have hrng : Hid (∀ x ∈ L, ∀ c ∈ x, 0 ≤ c ∧ c < ((4 : Nat) : Int)) := Lib.hid (by rw [hL]; exact Perms.subs_rng)
  rw [← hL] at o2
  have hL' := Lib.hid hL
  clear hL
  obtain ⟨aL, cL, rfl, _, _, _⟩ := o2.form
  have bw2 := b1.trans (b2.mono b1.size)
  have hp3 := Lib.hid (hp2.out.below b2)
  obtain ⟨WR0, hWR0⟩ : ∃ z, z = w1.heap.size := ⟨_, rfl⟩
  obtain ⟨W2, hW2⟩ : ∃ z, z = w2.heap.size := ⟨_, rfl⟩
  have hb1s := b1.size
  have hb2s := b2.size
  have hWa : w.heap.size ≤ WR0 ∧ WR0 ≤ W2 := by omega
  have hWb : W2 ≤ w2.heap.size ∧ w2.heap.size ≤ W2 := by omega
  rw [← hWR0, ← hW2] at o2
  have o2' := Lib.hid o2
  clear o2 hWR0 hW2
  go_wp2_with fail
  have o0 := own_empty w2
  have b0 := below_alloc w2 (.cells #[] 3)
  have o0' : OwnInts (w2.alloc (.cells #[] 3)) w.heap.size (.slice (some ⟨w2.heap.size, 0, none⟩) 0 0) (Perms.pairTo p 0) := OwnInts.mono o0 (by omega)
  have oL0 := Lib.hid (o2'.out.below b0)
  have bw0 := bw2.trans (b0.mono bw2.size)
  have hp4 := Lib.hid (hp3.out.below b0)
  go_loopg [7, 35] L.length (fun gg u7 u35 wr => ∃ (j go n cap : Nat), u35 = .int .i64 j ∧ u7 = .slice (some ⟨go, 0, none⟩) n cap ∧ OwnInts wr w.heap.size (.slice (some ⟨go, 0, none⟩) n cap) (Perms.pairTo p j) ∧ Hid (OwnRows wr WR0 W2 (.slice aL L.length cL) L) ∧ W2 ≤ go ∧ Below w.heap.size w wr ∧ W2 ≤ wr.heap.size ∧ Hid (IntsAt wr (.slice ap 4 cp) p) ∧ j + gg ≤ L.length ∧ L.length ≤ j + gg)
  case atStart => exact ⟨0, w2.heap.size, 0, 0, rfl, rfl, o0', oL0, hWb.1, bw0, by simp; omega, hp4, by omega, by omega⟩
  case round =>
    obtain ⟨j, go, n, cap, rfl, rfl, oj, oL, hgo, bj, hs2, hpj, hm1, hm2⟩ := hrel
    obtain ⟨gk1, hgk1⟩ : ∃ g, g = gk := ⟨_, rfl⟩
    by_cases hj : j < L.length
    · have hjI : (j : Int) < L.length := by omega
      obtain ⟨b7, f7, u, x, e7, hx, hcx, hux⟩ := oL.out.at.cell hj
      subst e7
      obtain ⟨ax, cx, rfl, _, _, _⟩ := hux.form
      have hux' := Lib.hid hux
      have hxr := Lib.hid (hrng.out x (List.mem_of_getElem? hx.out))
      have hst : Hid (Perms.pairTo p (j + 1) = Perms.pairTo p j ++ Perms.inTo L (Perms.imgTo p x 4) L.length) := Lib.hid (by
        have h := hx.out
        rw [hL'.out] at h ⊢
        exact Perms.pairTo_step h)
      have hpt := Perms.pairTo_len p j (by omega)
      clear hux
      go_wp2_with fail
      refine l04Image_c (n := 4) hpj.out hux'.out hR'.out (by omega) hxr.out ?_
      intro v3 w3 o3 b3
      obtain ⟨Y, hY⟩ : ∃ Y, Y = Perms.imgTo p x 4 := ⟨_, rfl⟩
      rw [← hY] at o3 hst
      clear hY
      obtain ⟨a3, c3, rfl, _, _, _⟩ := Own.form o3
      have bj3 := bj.trans (b3.mono bj.size)
      have oj3 : OwnInts w3 w.heap.size (.slice (some ⟨go, 0, none⟩) n cap) (Perms.pairTo p j ++ Perms.inTo L Y 0) := by
        have h := OwnInts.below oj b3
        have e : Perms.pairTo p j ++ Perms.inTo L Y 0 = Perms.pairTo p j := by simp [Perms.inTo]
        rw [e]; exact h
      have oL3 := Lib.hid (oL.out.below b3)
      have hp5 := Lib.hid (hpj.out.below b3)
      have hap : ∀ b, (Value.slice a3 (ints Y).length c3).ownBlock = some b → b ≠ go := fun b hb e => by
        have h1 := (Own.lt o3 hb).1
        have h2 := (Own.lt oj (k := go) rfl).2
        omega
      have hap' := Lib.hid hap
      have hs3 : W2 ≤ w3.heap.size := by have := b3.size; omega
      obtain ⟨WY, hWY⟩ : ∃ z, z = wr.heap.size := ⟨_, rfl⟩
      rw [← hWY] at o3
      clear hap hWY
      go_wp2_with fail
      go_loopg [7, 44] L.length (fun gg u7 u44 w4 => ∃ (t go n cap : Nat), u44 = .int .i64 t ∧ u7 = .slice (some ⟨go, 0, none⟩) n cap ∧ OwnInts w4 w.heap.size (.slice (some ⟨go, 0, none⟩) n cap) (Perms.pairTo p j ++ Perms.inTo L Y t) ∧ Hid (OwnRows w4 WR0 W2 (.slice (some ⟨b7, f7, none⟩) L.length cL) L) ∧ Hid (OwnInts w4 WY (.slice a3 (ints Y).length c3) Y) ∧ Hid (∀ b, (Value.slice a3 (ints Y).length c3).ownBlock = some b → b ≠ go) ∧ W2 ≤ go ∧ Below w.heap.size w w4 ∧ W2 ≤ w4.heap.size ∧ Hid (IntsAt w4 (.slice ap 4 cp) p) ∧ t + gg ≤ L.length ∧ L.length ≤ t + gg)
      case atStart => exact ⟨0, go, n, cap, rfl, rfl, oj3, oL3, Lib.hid o3, hap', hgo, bj3, hs3, hp5, by omega, by omega⟩
      case round =>
        obtain ⟨t, go, n, cap, rfl, rfl, oj, oL, oY, hap, hgo, bj, hs2, hpj, ht1, ht2⟩ := hrel
        have hit := Perms.inTo_len L Y t
        by_cases ht : t < L.length
        · have htI : (t : Int) < L.length := by omega
          obtain ⟨b7, f7, u, z, e7, hz, hcz, huz⟩ := oL.out.at.cell ht
          cases e7
          obtain ⟨az, cz, rfl, _, _, _⟩ := huz.form
          have huz' := Lib.hid huz
          have hstep := Perms.inTo_step (L := L) (Y := Y) hz.out
          have hJ : (Perms.pairTo p j ++ Perms.inTo L Y t).length ≤ 100 := by rw [List.length_append]; omega
          clear huz
          by_cases hyz : Y = z
          · have hd : Hid (decide (Y = z) = true) := Lib.hid (decide_eq_true hyz)
            rw [if_pos hyz] at hstep
            have hst3 : Hid (Perms.pairTo p j ++ Perms.inTo L Y (t + 1) = (Perms.pairTo p j ++ Perms.inTo L Y t) ++ [(t : Int)]) := Lib.hid (by rw [hstep, List.append_assoc])
            obtain ⟨J, hJe⟩ : ∃ J, J = Perms.pairTo p j ++ Perms.inTo L Y t := ⟨_, rfl⟩
            rw [← hJe] at oj hJ
            have hJe' := Lib.hid hJe
            clear hyz hstep hJe
            go_wp2_with (first
              | (go_at_call 88; refine l03Same_c (OwnInts.at oY.out) huz'.out ?_; intro w5 d5; rw [hd.out]; have oj5 := Own.below (OwnInts.drawn oj d5) (below_alloc w5 (.cells #[.int .i64 (t : Int)] 3)); have bj5 := bj.trans (d5.below _); have hs5 := (d5.below 0).size)
              | (at_builtin; refine app_int_val rfl (.tmp 52) (.tmp 54) rfl rfl oj5 rfl (cell_new _ _ _) rfl (by rw [ints_len]; omega) (by have := bj5.size; simp; omega) ?_; intro go6 cap6 w6 o6 g6 n6))
            have ba5 := below_alloc w5 (.cells #[.int .i64 (t : Int)] 3)
            have bj6 := (bj5.trans (ba5.mono bj5.size)).grown g6 (by have := bj5.size; simp; omega) (fun b hb => by cases hb; exact (Own.lt oj (k := go) rfl).1)
            have hs6 := g6.size
            simp at hs6
            have hgo6 : W2 ≤ go6 := by
              rcases n6 with h | h
              · rw [h]; exact hgo
              · simp at h; omega
            have oL6 := Lib.hid (((oL.out.drawn d5).below ba5).kept (w' := w6) (fun k h1 h2 h3 => g6.block k h3 (fun e => by cases e; omega)))
            have oY6 : Hid (OwnInts w6 WY (.slice a3 (ints Y).length c3) Y) := Lib.hid (Own.grown (OwnInts.below (OwnInts.drawn oY.out d5) ba5) g6 (by
              cases hb : (Value.slice a3 (ints Y).length c3).ownBlock with
              | none => exact .inl rfl
              | some b => exact .inr (fun e => by cases e; exact hap.out _ hb rfl)))
            have hap6 : Hid (∀ b, (Value.slice a3 (ints Y).length c3).ownBlock = some b → b ≠ go6) := Lib.hid (fun b hb => by
              rcases n6 with h | h
              · rw [h]; exact hap.out b hb
              · have := (Own.lt oY.out hb).2
                simp at h
                omega)
            have o7 : OwnInts w6 w.heap.size (.slice (some ⟨go6, 0, none⟩) (n + 1) cap6) (Perms.pairTo p j ++ Perms.inTo L Y (t + 1)) := by
              rw [hst3.out, ← hJe'.out]
              unfold OwnInts
              rw [ints_append]
              exact o6
            have hp6 := Lib.hid (hp1.out.below bj6)
            have hs7 : W2 ≤ w6.heap.size := by omega
            go_roundg (gk - 1)
            case measure => omega
            case rel => exact ⟨t + 1, go6, _, cap6, by go_num, rfl, o7, oL6, oY6, hap6, hgo6, bj6, hs7, hp6, by omega, by omega⟩
          · have hd : Hid (decide (Y = z) = false) := Lib.hid (decide_eq_false hyz)
            rw [if_neg hyz] at hstep
            have hst3 := Lib.hid hstep
            clear hyz hstep
            go_wp2_with (go_at_call 88; refine l03Same_c (OwnInts.at oY.out) huz'.out ?_; intro w5 d5; rw [hd.out])
            have oj5 : OwnInts w5 w.heap.size (.slice (some ⟨go, 0, none⟩) n cap) (Perms.pairTo p j ++ Perms.inTo L Y (t + 1)) := by rw [hst3.out]; exact OwnInts.drawn oj d5
            have hs5 := (d5.below 0).size
            have hs7 : W2 ≤ w5.heap.size := by omega
            go_roundg (gk - 1)
            case measure => omega
            case rel => exact ⟨t + 1, go, n, cap, by go_num, rfl, oj5, Lib.hid (oL.out.drawn d5), Lib.hid (OwnInts.drawn oY.out d5), hap, hgo, bj.trans (d5.below _), hs7, Lib.hid (hpj.out.drawn d5), by omega, by omega⟩
        · have hte : t = L.length := by omega
          have oj5 : Hid (OwnInts wr w.heap.size (.slice (some ⟨go, 0, none⟩) n cap) (Perms.pairTo p (j + 1))) := Lib.hid (by rw [hst.out, ← hte]; exact oj)
          go_wp2_with fail
          go_roundg (gk1 - 1)
          case measure => omega
          case rel => exact ⟨j + 1, go, n, cap, by go_num, rfl, oj5.out, oL, hgo, bj, hs2, hpj, by omega, by omega⟩
    · have hje : j = L.length := by omega
      have h2 : OwnInts wr w.heap.size (.slice (some ⟨go, 0, none⟩) n cap) (Perms.pairAct p) := by
        unfold Perms.pairAct
        rw [← hL'.out, ← hje]
        exact oj
      have h3 := Lib.hid (H.out _ wr h2 bj)
      clear h2
      go_wp2_with fail
      exact h3.out
theorem PairAction_s {vp : Value} {p : List Int} {w : World} {Q : Ending → World → Prop} (hp : IntsAt w vp p) (hR : Perms.inR 4 p) (hok : Perms.permB p = true)
    (hQ : ∀ v w', OwnInts w' w.heap.size v (Perms.pairAct p) → Below w.heap.size w w' → Q (.returned (.tuple #[v, .bool true])) w') :
    Calls Try.prog 49 #[vp] w Q := by
  have H := Lib.hid hQ; clear hQ
  have hp0 := Lib.hid hp
  obtain ⟨ap, cp, rfl, _, _, _⟩ := hp.form
  have hpl := hR.1
  have hR' := Lib.hid hR
  have hok' := Lib.hid hok
  have h4 : ¬ ((p.length : Int) < 2) := by omega
  clear hp hR hok hpl
  go_enter Try.func49, Try.ntmps49
  go_wp2_with fail
  refine SubsetAction_c hp0.out hR'.out hok'.out ?_
  intro v1 w1 o1 b1
  have h3 := Lib.hid (H.out v1 w1 o1 b1)
  obtain ⟨a1, c1, rfl, _, _, _⟩ := Own.form o1
  go_wp2_with fail
  exact h3.out
end Go.Proofs.Ytdjdagcgodpgdaa
/- The reference's generators of the corners of a cube. -/
set_option linter.unusedVariables false
namespace Go.Proofs.Ytdjdagcgodpgdaa
open Go.RowKit

def Perms.corX (k : Nat) : Int := ((k % 2 : Nat) : Int)
def Perms.corY (k : Nat) : Int := ((k / 2 % 2 : Nat) : Int)
def Perms.corZ (k : Nat) : Int := ((k / 4 : Nat) : Int)
def Perms.corA (k : Nat) : Int := (1 - Perms.corY k) + 2 * Perms.corX k + 4 * Perms.corZ k
def Perms.corB (k : Nat) : Int := Perms.corX k + 2 * (1 - Perms.corZ k) + 4 * Perms.corY k
def Perms.corM (k : Nat) : Int := Perms.corX k + 2 * Perms.corY k + 4 * (1 - Perms.corZ k)
def Perms.corL (f : Nat → Int) (j : Nat) : List Int := (List.range j).map f
theorem Perms.corL_step (f : Nat → Int) (j : Nat) : Perms.corL f (j + 1) = Perms.corL f j ++ [f j] := by
  unfold Perms.corL
  rw [List.range_succ, List.map_append]; rfl
theorem Perms.corL_len (f : Nat → Int) (j : Nat) : (Perms.corL f j).length = j := by simp [Perms.corL]
theorem l10Corner_c {x y z : Int} {w : World} {Q : Ending → World → Prop} (hx : -10 ≤ x ∧ x ≤ 10) (hy : -10 ≤ y ∧ y ≤ 10) (hz : -10 ≤ z ∧ z ≤ 10)
    (hQ : Q (.returned (.int .i64 (x + 2 * y + 4 * z))) w) :
    Calls Try.prog 86 #[.int .i64 x, .int .i64 y, .int .i64 z] w Q := by
  have H := Lib.hid hQ; clear hQ
  obtain ⟨hx1, hx2⟩ := hx
  obtain ⟨hy1, hy2⟩ := hy
  obtain ⟨hz1, hz2⟩ := hz
  go_enter Try.func86, Try.ntmps86
  go_wp2_with fail
  exact H.out
set_option maxHeartbeats 3200000 in
theorem l10Corners_c {w : World} {Q : Ending → World → Prop}
    (hQ : ∀ v w', OwnRows w' w.heap.size w'.heap.size v [Perms.corL Perms.corA 8, Perms.corL Perms.corB 8, Perms.corL Perms.corM 8] → Below w.heap.size w w' → Q (.returned v) w') :
    Calls Try.prog 50 #[] w Q := by
  have H := Lib.hid hQ; clear hQ
  go_enter Try.func50, Try.ntmps50
  go_wp2_with fail
  have oa0 := own_empty w
  have ba0 := below_alloc w (.cells #[] 3)
  have ob0 := own_empty (w.alloc (.cells #[] 3))
  have bb0 := ba0.alloc ba0.size (.cells #[] 3)
  have om0 := own_empty ((w.alloc (.cells #[] 3)).alloc (.cells #[] 3))
  have bm0 := bb0.alloc bb0.size (.cells #[] 3)
  have oa1 := Own.below (Own.below oa0 (below_alloc _ (.cells #[] 3))) (below_alloc _ (.cells #[] 3))
  have ob1 := Own.below ob0 (below_alloc _ (.cells #[] 3))
  have ob2 : OwnInts (((w.alloc (.cells #[] 3)).alloc (.cells #[] 3)).alloc (.cells #[] 3)) w.heap.size (.slice (some ⟨w.heap.size + 1, 0, none⟩) 0 0) [] := by
    have h := OwnInts.mono (B' := w.heap.size) ob1 (by simp)
    rwa [World.size_alloc] at h
  have om2 : OwnInts (((w.alloc (.cells #[] 3)).alloc (.cells #[] 3)).alloc (.cells #[] 3)) w.heap.size (.slice (some ⟨w.heap.size + 1 + 1, 0, none⟩) 0 0) [] := by
    have h := OwnInts.mono (B' := w.heap.size) om0 (by simp; omega)
    rwa [World.size_alloc, World.size_alloc] at h
  clear oa0 ob0 om0 ob1 ba0 bb0
  obtain ⟨W0, hW0⟩ : ∃ z, z = ((w.alloc (.cells #[] 3)).alloc (.cells #[] 3)).alloc (.cells #[] 3) := ⟨_, rfl⟩
  rw [← hW0] at oa1 ob2 om2 bm0 ⊢
  clear hW0
  go_loopg [1, 2, 3, 4] 8 (fun gg u1 u2 u3 u4 wr => ∃ (k ga ca gb cb gm cm : Nat), u4 = .int .i64 k ∧ u1 = .slice (some ⟨ga, 0, none⟩) k ca ∧ u2 = .slice (some ⟨gb, 0, none⟩) k cb ∧ u3 = .slice (some ⟨gm, 0, none⟩) k cm ∧ OwnInts wr w.heap.size (.slice (some ⟨ga, 0, none⟩) k ca) (Perms.corL Perms.corA k) ∧ OwnInts wr w.heap.size (.slice (some ⟨gb, 0, none⟩) k cb) (Perms.corL Perms.corB k) ∧ OwnInts wr w.heap.size (.slice (some ⟨gm, 0, none⟩) k cm) (Perms.corL Perms.corM k) ∧ ga ≠ gb ∧ ga ≠ gm ∧ gb ≠ gm ∧ Below w.heap.size w wr ∧ k + gg = 8)
  case atStart => exact ⟨0, _, 0, _, 0, _, 0, rfl, rfl, rfl, rfl, oa1, ob2, om2, by omega, by omega, by omega, bm0, rfl⟩
  case round =>
    obtain ⟨k, ga, ca, gb, cb, gm, cm, rfl, rfl, rfl, rfl, oa, ob, om, hab, ham, hbm, bw, hk⟩ := hrel
    by_cases hk8 : k < 8
    · have hkI : (k : Int) < 8 := by omega
      obtain ⟨x, hx⟩ : ∃ x : Nat, x = k % 2 := ⟨_, rfl⟩
      obtain ⟨y, hy⟩ : ∃ y : Nat, y = k / 2 % 2 := ⟨_, rfl⟩
      obtain ⟨z, hz⟩ : ∃ z : Nat, z = k / 4 := ⟨_, rfl⟩
      have hxI : (k : Int) % 2 = (x : Int) := by omega
      have hy2 : (k : Int) / 2 = ((k / 2 : Nat) : Int) := by omega
      have hyI : (k : Int) / 2 % 2 = (y : Int) := by omega
      have hzI : (k : Int) / 4 = (z : Int) := by omega
      have hx1 : x ≤ 1 := by omega
      have hy1 : y ≤ 1 := by omega
      have hz1 : z ≤ 1 := by omega
      have hsa : Hid (Perms.corL Perms.corA (k + 1) = Perms.corL Perms.corA k ++ [((1 : Int) - y) + 2 * x + 4 * z]) := Lib.hid (by
        rw [Perms.corL_step]; unfold Perms.corA Perms.corX Perms.corY Perms.corZ; rw [hx, hy, hz])
      have hsb : Hid (Perms.corL Perms.corB (k + 1) = Perms.corL Perms.corB k ++ [(x : Int) + 2 * (1 - (z : Int)) + 4 * y]) := Lib.hid (by
        rw [Perms.corL_step]; unfold Perms.corB Perms.corX Perms.corY Perms.corZ; rw [hx, hy, hz])
      have hsm : Hid (Perms.corL Perms.corM (k + 1) = Perms.corL Perms.corM k ++ [(x : Int) + 2 * y + 4 * (1 - (z : Int))]) := Lib.hid (by
        rw [Perms.corL_step]; unfold Perms.corM Perms.corX Perms.corY Perms.corZ; rw [hx, hy, hz])
      have hbs := bw.size
      have hgal := (Own.lt oa (k := ga) rfl).2
      have hgbl := (Own.lt ob (k := gb) rfl).2
      have hgml := (Own.lt om (k := gm) rfl).2
      have hla : (Perms.corL Perms.corA k).length ≤ 8 := by rw [Perms.corL_len]; omega
      have hlb : (Perms.corL Perms.corB k).length ≤ 8 := by rw [Perms.corL_len]; omega
      have hlm : (Perms.corL Perms.corM k).length ≤ 8 := by rw [Perms.corL_len]; omega
      clear hx hy hz hy2
      go_wp2_with (first
        | (go_at_call 86; refine l10Corner_c (by omega) (by omega) (by omega) ?_)
        | (at_builtin; refine app_int_val rfl (.tmp 22) (.tmp 28) rfl rfl (Own.below oa (below_alloc wr _)) rfl (cell_new _ _ _) rfl (by rw [ints_len]; omega) (by simp; omega) ?_; intro ga4 ca4 w4 oa4 g4 n4; have ob4 := Own.grown (Own.below ob (below_alloc wr _)) g4 (.inr (by intro e; cases e; exact hab rfl)); have om4 := Own.grown (Own.below om (below_alloc wr _)) g4 (.inr (by intro e; cases e; exact ham rfl)); have hs4 := g4.size; have bw4 := (bw.alloc bw.size _).grown g4 (by simp; omega) (fun b hb => by cases hb; exact (Own.lt oa (k := ga) rfl).1); have hs4' : wr.heap.size < w4.heap.size := (by simp at hs4; omega); have hab4 : ga4 ≠ gb := (by (rcases n4 with h | h); (rw [h]; exact hab); (simp at h; omega)); have ham4 : ga4 ≠ gm := (by (rcases n4 with h | h); (rw [h]; exact ham); (simp at h; omega)); have hga4 := (Own.lt oa4 (k := ga4) rfl).2)
        | (at_builtin; refine app_int_val rfl (.tmp 30) (.tmp 36) rfl rfl (Own.below ob4 (below_alloc w4 _)) rfl (cell_new _ _ _) rfl (by rw [ints_len]; omega) (by simp; omega) ?_; intro gb5 cb5 w5 ob5 g5 n5; have oa5 := Own.grown (Own.below oa4 (below_alloc w4 _)) g5 (.inr (by intro e; cases e; exact hab4 rfl)); have om5 := Own.grown (Own.below om4 (below_alloc w4 _)) g5 (.inr (by intro e; cases e; exact hbm rfl)); have hs5 := g5.size; have bw5 := (bw4.alloc bw4.size _).grown g5 (by simp; omega) (fun b hb => by cases hb; exact (Own.lt ob (k := gb) rfl).1); have hs5' : w4.heap.size < w5.heap.size := (by simp at hs5; omega); have hab5 : ga4 ≠ gb5 := (by (rcases n5 with h | h); (rw [h]; exact hab4); (simp at h; omega)); have hbm5 : gb5 ≠ gm := (by (rcases n5 with h | h); (rw [h]; exact hbm); (simp at h; omega)); have hgb5 := (Own.lt ob5 (k := gb5) rfl).2)
        | (at_builtin; refine app_int_val rfl (.tmp 38) (.tmp 44) rfl rfl (Own.below om5 (below_alloc w5 _)) rfl (cell_new _ _ _) rfl (by rw [ints_len]; omega) (by simp; omega) ?_; intro gm6 cm6 w6 om6 g6 n6; have oa6 := Own.grown (Own.below oa5 (below_alloc w5 _)) g6 (.inr (by intro e; cases e; exact ham4 rfl)); have ob6 := Own.grown (Own.below ob5 (below_alloc w5 _)) g6 (.inr (by intro e; cases e; exact hbm5 rfl)); have hs6 := g6.size; have bw6 := (bw5.alloc bw5.size _).grown g6 (by simp; omega) (fun b hb => by cases hb; exact (Own.lt om (k := gm) rfl).1); have ham6 : ga4 ≠ gm6 := (by (rcases n6 with h | h); (rw [h]; exact ham4); (simp at h; omega)); have hbm6 : gb5 ≠ gm6 := (by (rcases n6 with h | h); (rw [h]; exact hbm5); (simp at h; omega))))
      have oa7 : OwnInts w6 w.heap.size (.slice (some ⟨ga4, 0, none⟩) (k + 1) ca4) (Perms.corL Perms.corA (k + 1)) := by rw [hsa.out]; unfold OwnInts; rw [ints_append]; exact oa6
      have ob7 : OwnInts w6 w.heap.size (.slice (some ⟨gb5, 0, none⟩) (k + 1) cb5) (Perms.corL Perms.corB (k + 1)) := by rw [hsb.out]; unfold OwnInts; rw [ints_append]; exact ob6
      have om7 : OwnInts w6 w.heap.size (.slice (some ⟨gm6, 0, none⟩) (k + 1) cm6) (Perms.corL Perms.corM (k + 1)) := by rw [hsm.out]; unfold OwnInts; rw [ints_append]; exact om6
      go_roundg (gk - 1)
      case measure => omega
      case rel => exact ⟨k + 1, ga4, ca4, gb5, cb5, gm6, cm6, by go_num, rfl, rfl, rfl, oa7, ob7, om7, hab5, ham6, hbm6, bw6, by omega⟩
    · obtain rfl : k = 8 := by omega
      have hv : Rows wr w.heap.size wr.heap.size [.slice (some ⟨ga, 0, none⟩) 8 ca, .slice (some ⟨gb, 0, none⟩) 8 cb, .slice (some ⟨gm, 0, none⟩) 8 cm] [Perms.corL Perms.corA 8, Perms.corL Perms.corB 8, Perms.corL Perms.corM 8] := by
        refine ⟨rfl, fun q xs hq => ?_, ?_⟩
        · match q, hq with
          | 0, hq => cases hq; exact ⟨_, rfl, oa, Own.inBlk oa⟩
          | 1, hq => cases hq; exact ⟨_, rfl, ob, Own.inBlk ob⟩
          | 2, hq => cases hq; exact ⟨_, rfl, om, Own.inBlk om⟩
          | q + 3, hq => simp at hq
        · rw [Rows.pw]
          refine List.Pairwise.cons ?_ (List.Pairwise.cons ?_ (List.Pairwise.cons (fun _ h => by cases h) List.Pairwise.nil))
          · intro u hu
            rcases List.mem_cons.1 hu with rfl | hu
            · exact .inr (fun e => by cases e; exact hab rfl)
            · rw [List.mem_singleton] at hu
              subst hu
              exact .inr (fun e => by cases e; exact ham rfl)
          · intro u hu
            rw [List.mem_singleton] at hu
            subst hu
            exact .inr (fun e => by cases e; exact hbm rfl)
      have oo : Own (wr.alloc (.cells #[.slice (some ⟨ga, 0, none⟩) 8 ca, .slice (some ⟨gb, 0, none⟩) 8 cb, .slice (some ⟨gm, 0, none⟩) 8 cm] 38)) wr.heap.size 38 (.slice (some ⟨wr.heap.size, 0, none⟩) 3 3) [.slice (some ⟨ga, 0, none⟩) 8 ca, .slice (some ⟨gb, 0, none⟩) 8 cb, .slice (some ⟨gm, 0, none⟩) 8 cm] :=
        World.ownsRow_lit (size := 1) wr #[.slice (some ⟨ga, 0, none⟩) 8 ca, .slice (some ⟨gb, 0, none⟩) 8 cb, .slice (some ⟨gm, 0, none⟩) 8 cm] 3 (Nat.le_refl _) (by unfold maxLen; omega) rfl
      have ba := below_alloc wr (.cells #[.slice (some ⟨ga, 0, none⟩) 8 ca, .slice (some ⟨gb, 0, none⟩) 8 cb, .slice (some ⟨gm, 0, none⟩) 8 cm] 38)
      have oo2 := oo.mono bw.size
      have how := ((hv.below ba).tight).whole oo2 (Own.inBlk oo2)
      have h3 := Lib.hid (H.out _ _ how (bw.trans (ba.mono bw.size)))
      clear hv oo oo2 how
      go_wp2_with fail
      exact h3.out
end Go.Proofs.Ytdjdagcgodpgdaa
/- The group that some permutations make, as the reference makes it. -/
set_option linter.unusedVariables false
namespace Go.Proofs.Ytdjdagcgodpgdaa
open Go.RowKit

set_option maxHeartbeats 4000000 in
theorem GroupOf_s {vg : Value} {gens : List (List Int)} {n : Int} {w : World} {Q : Ending → World → Prop} (hg : RowsAt w vg gens)
    (hQ : ∀ v w', OwnRows w' w.heap.size w'.heap.size v (Perms.gofW n gens) → Below w.heap.size w w' → Q (.returned (.tuple #[v, .bool (Perms.gofB n gens)])) w') :
    Calls Try.prog 29 #[.int .i64 n, vg] w Q := by
  have H := Lib.hid hQ; clear hQ
  have hg0 := Lib.hid hg
  have bad : ∀ w', Below w.heap.size w w' → Perms.gofO n gens = none → Q (.returned (.tuple #[.slice none 0 0, .bool false])) w' := fun w' hb hf => by
    have := H.out (.slice none 0 0) w' (by unfold Perms.gofW; rw [hf]; exact OwnRows.nil _ _ _) hb
    unfold Perms.gofB at this
    rw [hf] at this; exact this
  have good : ∀ w' v q, Below w.heap.size w w' → Perms.gofO n gens = some q → OwnRows w' w.heap.size w'.heap.size v (Perms.isort q) → Q (.returned (.tuple #[v, .bool true])) w' := fun w' v q hb hf ho => by
    have := H.out v w' (by unfold Perms.gofW; rw [hf]; exact ho) hb
    unfold Perms.gofB at this
    rw [hf] at this; exact this
  have bad' := Lib.hid bad
  have good' := Lib.hid good
  clear bad good
  obtain ⟨aa, ca, rfl, la, lca, cca⟩ := hg.form
  clear hg
  by_cases hn : 1 ≤ n ∧ n ≤ 10
  rotate_left
  · have hd : Hid (decide (1 ≤ n ∧ n ≤ 10) = false) := Lib.hid (decide_eq_false hn)
    have e : Hid (Perms.gofO n gens = none) := Lib.hid (by unfold Perms.gofO Perms.gokB; rw [hd.out]; rfl)
    clear hn
    go_enter Try.func29, Try.ntmps29
    go_wp2_with (go_at_call 51; refine l01In_c ?_; rw [hd.out])
    all_goals exact bad'.out _ (Below.refl _ _) e.out
  have hd : Hid (decide (1 ≤ n ∧ n ≤ 10) = true) := Lib.hid (decide_eq_true hn)
  obtain ⟨hn1, hn2⟩ := hn
  obtain ⟨n0, rfl⟩ : ∃ n0 : Nat, n = n0 := ⟨n.toNat, by omega⟩
  go_enter Try.func29, Try.ntmps29
  go_wp2_with (go_at_call 51; refine l01In_c ?_; rw [hd.out])
  have hgl63 := Lib.hid la
  go_loopg [19] gens.length (fun g i wr => Below w.heap.size w wr ∧ ∃ j : Nat, i = .int .i64 j ∧ Hid ((gens.take j).all (fun p => Perms.permB p && decide ((p.length : Int) = n0)) = true) ∧ j + g ≤ gens.length ∧ gens.length ≤ j + g)
  case atStart => exact ⟨Below.refl _ _, 0, rfl, Lib.hid rfl, by omega, by omega⟩
  case round =>
    obtain ⟨hb, j, rfl, hok, hk1, hk2⟩ := hrel
    by_cases hj : j < gens.length
    · obtain ⟨b, off, u, p, rfl, hx, hcw, hi⟩ := hg0.out.cell hj
      obtain ⟨au, cu, rfl, lp, _, _⟩ := hi.form
      have i1 : (j : Int) < gens.length := by omega
      have hc := below_cells hb _ _ hcw
      have hi' := Lib.hid (hi.below hb)
      have hst : Hid ((gens.take (j + 1)).all (fun p => Perms.permB p && decide ((p.length : Int) = n0)) = (Perms.permB p && decide ((p.length : Int) = n0))) := Lib.hid (by
        rw [List.take_add_one, hx.out, List.all_append, hok.out]; simp)
      have hbadp : Hid ((Perms.permB p && decide ((p.length : Int) = n0)) = false → Perms.gofO n0 gens = none) := Lib.hid (fun h => by
        unfold Perms.gofO
        rw [if_neg]
        intro h2
        have := (Perms.gok_parts h2).2.2 p (List.mem_of_getElem? hx.out)
        rw [this.1, decide_eq_true this.2] at h
        cases h)
      clear hi
      go_wp2_with fail
      refine PermOk_s hi'.out ?_
      intro w2 b2
      have hbb : Below w.heap.size w w2 := hb.trans (b2.mono hb.size)
      cases hpb : Perms.permB p with
      | false =>
        have hf := Lib.hid (hbadp.out (by rw [hpb]; rfl))
        clear hpb
        go_wp2_with fail
        exact bad'.out _ hbb hf.out
      | true =>
        by_cases hln : (p.length : Int) = n0
        · have hs2 : Hid ((gens.take (j + 1)).all (fun p => Perms.permB p && decide ((p.length : Int) = n0)) = true) := Lib.hid (by rw [hst.out, hpb, decide_eq_true hln]; rfl)
          have hne : ((p.length : Int) != n0) = false := by rw [hln]; simp
          clear hpb hln
          go_wp2_with fail
          go_roundg (gk - 1)
          case measure => omega
          case rel => exact ⟨hbb, j + 1, by go_num, hs2, by omega, by omega⟩
        · have hf := Lib.hid (hbadp.out (by rw [hpb, decide_eq_false hln]; rfl))
          have hne : ((p.length : Int) != n0) = true := by simpa using hln
          clear hpb hln
          go_wp2_with fail
          exact bad'.out _ hbb hf.out
    · have hgok : Perms.gokB n0 gens = true := by
        have h := hok.out
        rw [List.take_of_length_le (by omega)] at h
        unfold Perms.gokB
        rw [h, decide_eq_true (by omega)]; rfl
      have hgo : Hid (Perms.gofO n0 gens = Perms.bfs gens 121 0 [Perms.iota n0]) := Lib.hid (by unfold Perms.gofO; rw [if_pos hgok, Int.toNat_natCast])
      have hgr := Lib.hid (Perms.gok_inR hgok)
      have hg1 := Lib.hid (hg0.out.below hb)
      clear hgok hok
      go_wp2_with fail
      refine IdentityPerm_s (by omega) (by omega) ?_
      intro v1 w1 o1 b1
      obtain ⟨a1, c1, rfl, _, _, _⟩ := Own.form o1
      have bw1 := hb.trans (b1.mono hb.size)
      have hb1s := b1.size
      have q1 := own_rows_one (OwnInts.mono o1 hb.size) bw1.size
      have ba1 := below_alloc w1 (.cells #[.slice a1 (ints (Perms.iota n0)).length c1] 38)
      have bwa1 := bw1.trans (ba1.mono bw1.size)
      have q1' := Lib.hid q1
      clear q1
      go_wp2_with fail
      refine IdentityPerm_s (by omega) (by omega) ?_
      intro v2 w2 o2 b2
      obtain ⟨a2, c2, rfl, _, _, _⟩ := Own.form o2
      have bw2 := bwa1.trans (b2.mono bwa1.size)
      have q2 := q1'.out.below b2
      have r2 := own_rows_one (OwnInts.mono o2 bwa1.size) bw2.size
      have ba2 := below_alloc w2 (.cells #[.slice a2 (ints (Perms.iota n0)).length c2] 38)
      have bwa2 := bw2.trans (ba2.mono bw2.size)
      have q3 := q2.below ba2
      obtain ⟨us0, g0o, _, g0r⟩ := (q3.tight).parts
      obtain ⟨uq0, p0o, _, p0r⟩ := (r2.tight).parts
      have p0v := p0r.vals
      have hgw2 := Lib.hid (((hg1.out.below b1).below ba1).below b2 |>.below ba2)
      have g0r' : Hid (Rows (w2.alloc (.cells #[.slice a2 (ints (Perms.iota n0)).length c2] 38)) w.heap.size _ us0 (Perms.isort [Perms.iota n0])) := Lib.hid g0r
      have p0v' := Lib.hid p0v
      have hinv := Lib.hid (Perms.GofInv.start (n := n0))
      clear q2 q3 r2 g0r p0r p0v q1'
      go_wp2_with fail
      go_loopg [8, 9, 10] 120 (fun gg u8 u9 u10 wr => ∃ (a : Nat) (q : List (List Int)) (us uq : List Value), u10 = .int .i64 a ∧ Own wr w.heap.size 38 u8 us ∧ Hid (Rows wr w.heap.size wr.heap.size us (Perms.isort q)) ∧ Own wr w.heap.size 38 u9 uq ∧ Hid (Vals wr w.heap.size uq q) ∧ Hid (Perms.GofInv n0 q) ∧ Hid (Perms.gofO n0 gens = Perms.bfs gens (gg + 1) a q) ∧ Below w.heap.size w wr ∧ Hid (RowsAt wr (.slice aa gens.length ca) gens) ∧ a ≤ q.length ∧ a + gg = 120)
      case atStart => exact ⟨0, [Perms.iota n0], us0, uq0, rfl, g0o, g0r', p0o, p0v', hinv, hgo, bwa2, hgw2, by simp, rfl⟩
      case round =>
        obtain ⟨a, q, us, uq, rfl, og, rg, oq, vq, inv, hbf, bwr, hgr3, ha1, ha2⟩ := hrel
        obtain ⟨gk1, hgk1⟩ : ∃ g, g = gk := ⟨_, rfl⟩
        obtain ⟨a8, c8, rfl, _, _, _⟩ := Own.form og
        obtain ⟨a9, c9, rfl, _, _, _⟩ := Own.form oq
        have hql := inv.out.le
        have huql : uq.length ≤ q.length ∧ q.length ≤ uq.length := by have := vq.out.1; omega
        by_cases ha : a < q.length
        · have haI : (a : Int) < uq.length := by omega
          obtain ⟨p, hp0⟩ : ∃ p, q[a]? = some p := ⟨_, List.getElem?_eq_getElem ha⟩
          have hp := Lib.hid hp0
          have hgk : gk = gk1 - 1 + 1 := by omega
          have hrow : Hid (Perms.gofO n0 gens = (Perms.rowTo gens p q gens.length).bind (Perms.bfs gens (gk1 - 1 + 1) (a + 1))) := Lib.hid (by
            rw [hbf.out, Perms.bfs_row hp0, ← hgk])
          clear hp0
          go_wp2_with fail
          have hst0 : Hid (Perms.rowTo gens p q 0 = some q) := Lib.hid rfl
          go_loopg [8, 9, 47] gens.length (fun gg u8 u9 u47 wr2 => ∃ (t : Nat) (cur : List (List Int)) (us uq : List Value), u47 = .int .i64 t ∧ Own wr2 w.heap.size 38 u8 us ∧ Hid (Rows wr2 w.heap.size wr2.heap.size us (Perms.isort cur)) ∧ Own wr2 w.heap.size 38 u9 uq ∧ Hid (Vals wr2 w.heap.size uq cur) ∧ Hid (Perms.GofInv n0 cur) ∧ Hid (Perms.rowTo gens p q t = some cur) ∧ Hid (cur[a]? = some p) ∧ Below w.heap.size w wr2 ∧ Hid (RowsAt wr2 (.slice aa gens.length ca) gens) ∧ t + gg ≤ gens.length ∧ gens.length ≤ t + gg)
          case atStart => exact ⟨0, q, us, uq, rfl, og, rg, oq, vq, inv, hst0, hp, bwr, hgr3, by omega, by omega⟩
          case round =>
            obtain ⟨t, cur, us, uq, rfl, og, rg, oq, vq, inv, hrt, hpa, bwr, hgr3, ht1, ht2⟩ := hrel
            obtain ⟨a8, c8, rfl, _, _, _⟩ := Own.form og
            obtain ⟨a9, c9, rfl, _, _, _⟩ := Own.form oq
            have hql := inv.out.le
            have huql : uq.length ≤ cur.length ∧ cur.length ≤ uq.length := by have := vq.out.1; omega
            have husl : us.length ≤ cur.length ∧ cur.length ≤ us.length := by have := rg.out.1; rw [Perms.isort_len] at this; omega
            have hac : a < cur.length := (List.getElem?_eq_some_iff.1 hpa.out).1
            by_cases ht : t < gens.length
            · have htI : (t : Int) < gens.length := by omega
              have haI2 : (a : Int) < uq.length := by omega
              obtain ⟨b7, f7, ug, s, rfl, hs, hcs, hus⟩ := hgr3.out.cell ht
              obtain ⟨ag, cg, rfl, _, _, _⟩ := hus.form
              have hus' := Lib.hid hus
              obtain ⟨up, hup, hoip⟩ := vq.out.2 a p hpa.out
              obtain ⟨ap, cp, rfl, _, _, _⟩ := Own.form hoip
              obtain ⟨g9, rfl, _, _⟩ := Own.head oq (by omega)
              have hcp := Own.cell oq hup
              have hip := Lib.hid (OwnInts.at hoip)
              have hpR := inv.out.rg p (List.mem_of_getElem? hpa.out)
              have hsR := hgr.out s (List.mem_of_getElem? hs.out)
              have hcR := Lib.hid (Perms.inR_comp hpR hsR)
              have hpl : p.length ≤ 1048576 := by rw [hpR.1]; omega
              have hpr : Hid (∀ x ∈ p, 0 ≤ x ∧ x < s.length) := Lib.hid (by rw [hsR.1]; exact hpR.2)
              have hstep : Hid (Perms.rowTo gens p q (t + 1) = Perms.stepG (some cur) (Perms.comp p s)) := Lib.hid (by rw [Perms.rowTo_step hs.out, hrt.out])
              clear hus hup hpR hsR
              go_wp2_with fail
              refine compose_s hip.out hus'.out hpl hpr.out ?_
              intro v3 w3 o3 b3
              obtain ⟨a3, c3, rfl, _, _, _⟩ := Own.form o3
              have bw3 := bwr.trans (b3.mono bwr.size)
              have og3 := Own.below og b3
              have rg3 := Lib.hid (rg.out.below b3)
              have oq3 := Own.below oq b3
              have vq3 := Lib.hid (vq.out.below b3)
              have hgr33 := Lib.hid (hgr3.out.below b3)
              have hgat := Lib.hid ((rg3.out.vals).at og3)
              have o3' := Lib.hid o3
              obtain ⟨c, hc⟩ : ∃ c, c = Perms.comp p s := ⟨_, rfl⟩
              rw [← hc] at o3 o3' hcR hstep ⊢
              have hcn := hcR.out.1
              have hln : Hid (∀ x ∈ Perms.isort cur, x.length = c.length) := Lib.hid (fun x hx => by rw [(inv.out.rg x (Perms.isort_mem.1 hx)).1, hcn])
              have hasc := Lib.hid (Perms.isort_asc inv.out.nd)
              have hisl : (Perms.isort cur).length ≤ 1048576 := by rw [Perms.isort_len]; omega
              have hisl' := Lib.hid hisl
              clear hc hisl o3
              by_cases hm : c ∈ cur
              · have hix : Hid (0 ≤ Perms.idx (Perms.isort cur) c) := Lib.hid (by unfold Perms.idx; rw [if_pos (Perms.isort_mem.2 hm)]; omega)
                have hst2 : Hid (Perms.rowTo gens p q (t + 1) = some cur) := Lib.hid (by rw [hstep.out]; simp [Perms.stepG, hm])
                clear hm hcn
                go_wp2_with fail
                refine find_s hgat.out (OwnInts.at o3'.out) hasc.out hisl'.out hln.out ?_
                intro w4 d4
                have hix2 := hix.out
                obtain ⟨ix, hixe⟩ : ∃ ix, ix = Perms.idx (Perms.isort cur) c := ⟨_, rfl⟩
                rw [← hixe] at hix2 ⊢
                have og4 := Own.drawn og3 d4
                have rg4 := Lib.hid (rg3.out.drawn d4)
                have oq4 := Own.drawn oq3 d4
                have vq4 := Lib.hid (vq3.out.drawn d4)
                have hgr4 := Lib.hid (hgr33.out.drawn d4)
                have bw4 := bw3.trans (d4.below _)
                clear hixe
                go_wp2_with fail
                go_roundg (gk - 1)
                case measure => omega
                case rel => exact ⟨t + 1, cur, us, uq, by go_num, og4, Lib.hid (rg4.out.tight), oq4, vq4, inv, hst2, hpa, bw4, hgr4, by omega, by omega⟩
              · have hix : Hid (Perms.idx (Perms.isort cur) c = -1) := Lib.hid (by unfold Perms.idx; rw [if_neg (fun h => hm (Perms.isort_mem.1 h))])
                by_cases h120 : cur.length = 120
                · have hst2 : Hid (Perms.rowTo gens p q (t + 1) = none) := Lib.hid (by rw [hstep.out]; simp [Perms.stepG, hm, h120])
                  have hno : Hid (Perms.gofO n0 gens = none) := Lib.hid (by rw [hrow.out, Perms.rowTo_none hst2.out]; rfl)
                  have hus120 : (us.length : Int) = 120 := by omega
                  clear hm h120 hcn
                  go_wp2_with fail
                  refine find_s hgat.out (OwnInts.at o3'.out) hasc.out hisl'.out hln.out ?_
                  intro w4 d4
                  rw [hix.out]
                  have bw4 := bw3.trans (d4.below _)
                  go_wp2_with fail
                  exact bad'.out _ bw4 hno.out
                · have hst2 : Hid (Perms.rowTo gens p q (t + 1) = some (cur ++ [c])) := Lib.hid (by rw [hstep.out]; simp [Perms.stepG, hm, h120])
                  have inv2 := Lib.hid (inv.out.add hcR.out hm h120)
                  have hus120 : ((us.length : Int) == 120) = false := by
                    rw [beq_eq_false_iff_ne]; omega
                  have hpa2 : Hid ((cur ++ [c])[a]? = some p) := Lib.hid (by rw [List.getElem?_append_left hac]; exact hpa.out)
                  clear hm hcn
                  go_wp2_with fail
                  refine find_s hgat.out (OwnInts.at o3'.out) hasc.out hisl'.out hln.out ?_
                  intro w4 d4
                  rw [hix.out]
                  have og4 := Own.drawn og3 d4
                  have rg4 := Lib.hid (rg3.out.drawn d4)
                  have oq4 := Own.drawn oq3 d4
                  have vq4 := Lib.hid (vq3.out.drawn d4)
                  have hgr4 := Lib.hid (hgr33.out.drawn d4)
                  have bw4 := bw3.trans (d4.below _)
                  have o34 := Lib.hid (OwnInts.drawn o3'.out d4)
                  have hil : Hid ((Perms.isort cur).length ≤ 1024) := Lib.hid (by rw [Perms.isort_len]; omega)
                  have hln4 : Hid (∀ x ∈ Perms.isort cur, x.length = n0) := Lib.hid (fun x hx => (inv.out.rg x (Perms.isort_mem.1 hx)).1)
                  go_wp2_with fail
                  refine l03Put_c (n := n0) (Own.row og4) rg4.out.1 rg4.out.vals.ints (OwnInts.at o34.out) hil.out hln4.out hcR.out.1 ?_
                  intro v5 w5 i hi hlow hhi o5 b5
                  have hisn : Perms.isort (cur ++ [c]) = ((Perms.isort cur).take i ++ [c]) ++ (Perms.isort cur).drop i := by
                    rw [Perms.isort_snoc, Perms.ins_at hi hlow hhi, List.append_assoc, List.singleton_append]
                  have b3s := b3.size
                  have d4s := (d4.below 0).size
                  have rg5 := (rg4.out.below b5).ins (OwnInts.mono (OwnInts.below o34.out b5) bwr.size) (fun b hb => (Own.lt o3'.out hb).1) hi
                  rw [← hisn] at rg5
                  have rg5' := Lib.hid rg5
                  obtain ⟨us5, hus5⟩ : ∃ us5, us5 = ((us.take i ++ [.slice a3 (ints c).length c3]) ++ us.drop i) := ⟨_, rfl⟩
                  rw [← hus5] at o5 rg5'
                  obtain ⟨a5, c5, rfl, _, _, _⟩ := Own.form o5
                  have oq5 := Own.below oq4 b5
                  have vq5 := Lib.hid (vq4.out.below b5)
                  have hgr5 := Lib.hid (hgr4.out.below b5)
                  have bw5 := bw4.trans (b5.mono bw4.size)
                  have o35 := Lib.hid (OwnInts.below o34.out b5)
                  clear rg5 hus5 hisn hlow hhi hi
                  have ba5 := below_alloc w5 (.cells #[.slice a3 (ints c).length c3] 38)
                  have oq6 := Own.below oq5 ba5
                  have hr6 := row_one w5 (.slice a3 (ints c).length c3) 38
                  have hone6 : Hid (∀ y ∈ [Value.slice a3 (ints c).length c3], y.oneCell' = true) := Lib.hid (fun y hy => by rw [List.mem_singleton] at hy; rw [hy]; rfl)
                  have bw6 := bw5.trans (ba5.mono bw5.size)
                  go_wp2_with (at_builtin; refine app_outer rfl (.tmp 67) (.tmp 69) rfl rfl oq6 rfl hr6 hone6.out (by show uq.length + 1 ≤ 1099511627776; omega) bw6.size ?_; intro v7 w7 o7 g7)
                  have bw7 := bw6.grown g7 bw6.size (fun b hb => (Own.lt oq6 hb).1)
                  have og7 := (Own.grown (Own.below o5 ba5) g7 (own_ne' oq4 o5 (Nat.le_refl _))).mono bw4.size
                  have rg7 := Lib.hid (((rg5'.out.below ba5).outer oq6 g7).tight)
                  have vq7 := Lib.hid (((vq5.out.below ba5).push (OwnInts.mono (OwnInts.below o35.out ba5) bwr.size)).outer oq6 g7)
                  have hgr7 := Lib.hid (hg0.out.below bw7)
                  go_roundg (gk - 1)
                  case measure => omega
                  case rel => exact ⟨t + 1, cur ++ [c], us5, uq ++ [.slice a3 (ints c).length c3], by go_num, og7, rg7, o7, vq7, inv2, hst2, hpa2, bw7, hgr7, by omega, by omega⟩
            · have hte : t = gens.length := by omega
              have hbf2 : Hid (Perms.gofO n0 gens = Perms.bfs gens (gk1 - 1 + 1) (a + 1) cur) := Lib.hid (by rw [hrow.out, ← hte, hrt.out]; rfl)
              go_wp2_with fail
              go_roundg (gk1 - 1)
              case measure => omega
              case rel => exact ⟨a + 1, cur, us, uq, by go_num, og, rg, oq, vq, inv, hbf2, bwr, hgr3, by omega, by omega⟩
        · obtain rfl : a = q.length := by omega
          have hfin : Hid (Perms.gofO n0 gens = some q) := Lib.hid (by rw [hbf.out, Perms.bfs_end (Nat.le_refl _)])
          have how := (rg.out.whole og (Own.inBlk og))
          have h3 := Lib.hid (good'.out wr _ q bwr hfin.out how)
          go_wp2_with fail
          exact h3.out
end Go.Proofs.Ytdjdagcgodpgdaa
