/-
  Sorting a slice of slices of integers: out of the library's contract.
-/
import Derived.Test.YtdjdagcgodpgdaaGreatSortLay
import Derived.Test.YtdjdagcgodpgdaaGreatMemT
import Derived.Test.YtdjdagcgodpgdaaGreatSlib
import Derived.Test.YtdjdagcgodpgdaaGreatPerms
set_option linter.unusedVariables false
namespace Go.Proofs.YtdjdagcgodpgdaaGreat
open Go.RowKit

theorem apart.symm {u v : Value} (h : apart u v) : apart v u := by
  unfold apart at h ⊢
  cases hv : v.ownBlock with
  | none => exact .inl rfl
  | some b =>
    refine .inr fun e => ?_
    rcases h with h | h
    · rw [h] at e; cases e
    · rw [hv] at h; exact h e.symm
/-- The rows in another order. -/
theorem Rows.perm {w : World} {B E : Nat} {us : List Value} {xss : List (List Int)} (h : Rows w B E us xss) {is : List Nat} (hp : is.Nodup) (hl : ∀ i ∈ is, i < xss.length) :
    Rows w B E (is.map fun i => us.getD i nilV) (is.map fun i => xss.getD i []) := by
  obtain ⟨h3, h4, h5⟩ := h
  refine ⟨by simp, fun k xs hk => ?_, fun i j z z' hij hz hz' => ?_⟩
  · rw [List.getElem?_map, Option.map_eq_some_iff] at hk
    obtain ⟨i, hi, rfl⟩ := hk
    have hil := hl i (List.mem_of_getElem? hi)
    obtain ⟨u, a, b, c⟩ := h4 i _ (List.getElem?_eq_getElem hil)
    have e : xss.getD i [] = xss[i] := by simp [List.getD, List.getElem?_eq_getElem hil]
    refine ⟨u, ?_, by rw [e]; exact b, c⟩
    rw [List.getElem?_map, hi]
    simp [List.getD, a]
  · rw [List.getElem?_map, Option.map_eq_some_iff] at hz hz'
    obtain ⟨a, ha, rfl⟩ := hz
    obtain ⟨b, hb, rfl⟩ := hz'
    have hal := hl a (List.mem_of_getElem? ha)
    have hbl := hl b (List.mem_of_getElem? hb)
    have hab : a ≠ b := by
      intro e
      subst e
      rw [List.nodup_iff_pairwise_ne, List.pairwise_iff_getElem] at hp
      obtain ⟨x1, e1⟩ := List.getElem?_eq_some_iff.1 ha
      obtain ⟨x2, e2⟩ := List.getElem?_eq_some_iff.1 hb
      exact hp i j x1 x2 hij (e1.trans e2.symm)
    have ga : us[a]? = some (us.getD a nilV) := by simp [List.getD, List.getElem?_eq_getElem (show a < us.length by omega)]
    have gb : us[b]? = some (us.getD b nilV) := by simp [List.getD, List.getElem?_eq_getElem (show b < us.length by omega)]
    by_cases h : a < b
    · exact h5 a b _ _ h ga gb
    · exact (h5 b a _ _ (by omega) gb ga).symm
theorem map_range_getD {α : Type} (l : List α) (d : α) : ((List.range l.length).map fun i => l.getD i d) = l := by
  apply List.ext_getElem?
  intro i
  by_cases h : i < l.length
  · rw [List.getElem?_map, List.getElem?_range h]
    simp [List.getD, List.getElem?_eq_getElem h]
  · rw [List.getElem?_eq_none (by simp; omega), List.getElem?_eq_none (by omega)]
def Words.Sorted (l : List (List Int)) : Prop := l.Pairwise fun a b => ¬ Words.cmpL b a < 0
theorem Words.cmpL_swo (xss : List (List Int)) : Go.Sort.SWO (α := Nat) (ltOf fun i j => Words.cmpL (xss.getD i []) (xss.getD j [])) where
  irrefl x := by
    show decide (Words.cmpL (xss.getD x []) (xss.getD x []) < 0) = false
    rw [Words.cmpL_self]; rfl
  trans x y z h1 h2 := by
    unfold ltOf at *
    simp only [decide_eq_true_eq] at *
    exact Words.cmpL_trans h1 h2
  ntrans x y z h1 h2 := by
    unfold ltOf at *
    simp only [decide_eq_false_iff_not] at *
    intro h3
    by_cases e : Words.cmpL (xss.getD x []) (xss.getD y []) = 0
    · rw [Words.cmpL_eq e] at h3
      exact h2 h3
    · have h4 : Words.cmpL (xss.getD y []) (xss.getD x []) < 0 := by rw [Words.cmpL_neg]; omega
      exact h2 (Words.cmpL_trans h4 h3)
theorem sorted_unique {a b : List (List Int)} (hp : a.Perm b) (ha : Words.Sorted a) (hb : Words.Sorted b) : a = b := by
  refine List.Perm.eq_of_pairwise (le := fun a b => ¬ Words.cmpL b a < 0) ?_ ha hb hp
  intro x y _ _ h1 h2
  rw [Words.cmpL_neg] at h1
  exact Words.cmpL_eq (by omega)
theorem heap_sortWorld {α : Type} [Inhabited α] (enc : α → Value) (w : World) (blk off m : Nat) (dk : Array α) (os : Array Obj) {k : Nat} (hk : k < w.heap.size) (hne : k ≠ blk) : (sortWorld enc w blk off m dk os).heap[k]? = w.heap[k]? := by
  unfold sortWorld
  rw [Go.Sort.heap_grow_old _ _ (by simp; exact hk)]
  unfold Go.Sort.putRow Go.Sort.mapBlock
  simp [Array.getElem?_modify, Ne.symm hne]
theorem below_sortWorld {α : Type} [Inhabited α] (enc : α → Value) {w : World} {B blk : Nat} (hB : B ≤ w.heap.size) (hb : B ≤ blk) (off m : Nat) (dk : Array α) (os : Array Obj) : Below B w (sortWorld enc w blk off m dk os) :=
  ⟨rfl, rfl, rfl, by unfold sortWorld; simp, fun k hk => heap_sortWorld enc w blk off m dk os (by omega) (by omega)⟩
theorem own_sortWorld {α : Type} [Inhabited α] (enc : α → Value) {w : World} {B g n cap : Nat} {T : TypeId} {vs : List Value} (h : Own w B T (.slice (some ⟨g, 0, none⟩) n cap) vs) (m : Nat) (dk : Array α) (os : Array Obj) (hs : dk.size = n) :
    Own (sortWorld enc w g 0 m dk os) B T (.slice (some ⟨g, 0, none⟩) n cap) (dk.toList.map enc) := by
  have hn := h.len
  unfold Own at h ⊢
  rcases h.2 with ⟨he, _⟩ | ⟨g', cap', cur, he, hb, hgg, h1, h2, h3, h4⟩
  · cases he
  · simp only [Value.slice.injEq] at he
    obtain ⟨e1, _, rfl⟩ := he
    obtain rfl : g = g' := by simpa using e1
    have hlt : g < w.heap.size := (Array.getElem?_eq_some_iff.1 hgg).1
    rw [Nat.mul_one] at h3 h4
    refine ⟨by simp, .inr ⟨g, cap, Go.Sort.putCells enc 0 dk cur, by simp [hs], hb, ?_, by simp; omega, h2, by simp [Go.Sort.putCells, h3], ?_⟩⟩
    · unfold sortWorld
      rw [Go.Sort.heap_grow_old _ _ (by simp; exact hlt)]
      unfold Go.Sort.putRow Go.Sort.mapBlock
      rw [Array.getElem?_modify]
      simp [Go.Sort.ahead, hgg, Go.Sort.onCells]
    · simp only [List.length_map, Array.length_toList, Nat.mul_one]
      apply List.ext_getElem?
      intro i
      by_cases hi : i < dk.size
      · rw [List.getElem?_take, if_pos hi, Array.getElem?_toList, List.getElem?_map, Array.getElem?_toList]
        unfold Go.Sort.putCells
        rw [Array.getElem?_mapIdx, Array.getElem?_eq_getElem (show i < cur.size by omega), Option.map_some, if_pos ⟨by omega, by omega⟩, Array.getElem?_eq_getElem hi, Option.map_some, Nat.sub_zero, getElem!_pos dk i hi]
      · rw [List.getElem?_eq_none (by simp; omega), List.getElem?_eq_none (by simp; omega)]
theorem sortRows_c {v : Value} {xss : List (List Int)} {w : World} {B E : Nat} {Q : Ending → World → Prop} (ho : OwnRows w B E v xss) (hB : B ≤ w.heap.size) (hn : 0 < xss.length) (hbig : xss.length ≤ 1048576)
    (hQ : ∀ w' yss, yss.Perm xss → Words.Sorted yss → OwnRows w' B w'.heap.size v yss → Below B w w' → Q (.returned (.tuple #[])) w') :
    Calls Tryz.prog 72 #[v, .func (.func 52) #[] #[]] w Q := by
  obtain ⟨us, o1, o2, o3⟩ := ho.parts
  obtain ⟨aa, ca, rfl, la, lca, cca⟩ := ho.form
  obtain ⟨g, rfl, hgB, hgl⟩ := Own.head o1 (by have := o3.1; omega)
  have hus := o3.1
  have hul := o1.len
  have one : OneCell fun i : Nat => us.getD i nilV := by
    intro i
    by_cases hi : i < us.length
    · obtain ⟨u, xs, hu, _, hou, _⟩ := o3.get (k := i) (by omega)
      obtain ⟨au, cu, rfl, _, _, _⟩ := Own.form hou
      have : us.getD i nilV = .slice au (ints xs).length cu := by simp [List.getD, hu.out]
      show (us.getD i nilV).oneCell' = true
      rw [this]; rfl
    · have : us.getD i nilV = nilV := by simp [List.getD, List.getElem?_eq_none (show us.length ≤ i by omega)]
      show (us.getD i nilV).oneCell' = true
      rw [this]; rfl
  have read : ∀ (m : Nat) (os : Array Obj) (dk : Array Nat) (i : Nat), IntsAt (sortWorld (fun i : Nat => us.getD i nilV) w g 0 m dk os) (us.getD i nilV) (xss.getD i []) := by
    intro m os dk i
    by_cases hi : i < us.length
    · obtain ⟨u, xs, hu, hx, hou, _⟩ := o3.get (k := i) (by omega)
      have e1 : us.getD i nilV = u := by simp [List.getD, hu.out]
      have e2 : xss.getD i [] = xs := by simp [List.getD, hx.out]
      rw [e1, e2]
      refine OwnInts.at (Own.kept (B := B) hou fun k hk => heap_sortWorld _ _ _ _ _ _ _ (Own.lt hou hk).2 ?_)
      rcases own_types o1 hou (by decide) with e | e
      · rw [e] at hk; cases hk
      · intro h; subst h; exact e hk
    · have e1 : us.getD i nilV = nilV := by simp [List.getD, List.getElem?_eq_none (show us.length ≤ i by omega)]
      have e2 : xss.getD i [] = [] := by simp [List.getD, List.getElem?_eq_none (show xss.length ≤ i by omega)]
      rw [e1, e2]
      exact ⟨none, 0, rfl, Nat.le_refl _, by unfold maxLen; omega, fun _ => rfl, fun k x h => by simp [ints] at h⟩
  have hcmp : CmpLays1 Tryz.prog 52 #[] (fun i : Nat => us.getD i nilV) (fun i j => Words.cmpL (xss.getD i []) (xss.getD j [])) g 0 xss.length w := by
    intro m os dk hs x y
    exact Compare_c (read m os dk x) (read m os dk y) ⟨rfl, 0, #[], by rw [Go.Sort.grow_empty]; rfl⟩
  have hH : Go.Sort.Holds (fun i : Nat => us.getD i nilV) w g 0 (Array.range xss.length) := by
    intro j hj
    rw [Array.size_range] at hj
    rw [Nat.zero_add, getElem!_pos _ j (by simpa using hj)]
    refine ⟨?_, o1.frozen j⟩
    rw [o1.cell (k := j) (x := us.getD j nilV) (by simp [List.getD, List.getElem?_eq_getElem (show j < us.length by omega)])]
    simp
  have hc := Any.slices_SortFunc Tryz.sortRows (fun i : Nat => us.getD i nilV) one (fun i j => Words.cmpL (xss.getD i []) (xss.getD j [])) (Words.cmpL_swo xss) 52 #[] g 0 ca (Array.range xss.length) w
    (fun args w => enters_of Tryz.func52 (by kernel_rfl) rfl args w) (by rw [Array.size_range]; exact hcmp) hH hgl (by rw [Array.size_range]; omega)
  rw [Array.size_range] at hc
  refine hc.mono ?_
  rintro e w' ⟨rfl, d', m, os, hp, hs, rfl⟩
  obtain ⟨hp1, hp2, hp3⟩ := hp
  rw [Array.size_range] at hp1
  have hpl : d'.toList.Perm (List.range xss.length) := by
    have h1 : d'.extract 0 xss.length = d' := by rw [← hp1]; simp
    have h2 : (Array.range xss.length).extract 0 xss.length = Array.range xss.length := by
      conv => lhs; arg 3; rw [← Array.size_range (n := xss.length)]
      simp
    rw [h1, h2] at hp3
    simpa using hp3
  have hnd : d'.toList.Nodup := hpl.nodup_iff.2 List.nodup_range
  have hlt : ∀ i ∈ d'.toList, i < xss.length := fun i hi => List.mem_range.1 (hpl.mem_iff.1 hi)
  refine hQ _ (d'.toList.map fun i => xss.getD i []) ?_ ?_ ?_ (below_sortWorld _ hB hgB _ _ _ _)
  · have := hpl.map fun i => xss.getD i []
    rwa [map_range_getD] at this
  · unfold Words.Sorted
    rw [List.pairwise_map, List.pairwise_iff_getElem]
    intro i j h1 h2 hij
    have := hs i j (Nat.zero_le _) hij (by simp at h2; omega)
    unfold ltOf at this
    rw [decide_eq_false_iff_not] at this
    rw [getElem!_pos d' i (by simpa using h1), getElem!_pos d' j (by simpa using h2)] at this
    simpa using this
  · have ow := own_sortWorld (fun i : Nat => us.getD i nilV) o1 m d' os hp1
    have rw1 : Rows (sortWorld (fun i : Nat => us.getD i nilV) w g 0 m d' os) B E us xss := by
      refine ⟨o3.1, fun k xs hk => ?_, o3.2.2⟩
      obtain ⟨u, a, b, c⟩ := o3.2.1 k xs hk
      refine ⟨u, a, Own.kept b fun q hq => heap_sortWorld _ _ _ _ _ _ _ (Own.lt b hq).2 ?_, c⟩
      rcases own_types o1 b (by decide) with e | e
      · rw [e] at hq; cases hq
      · intro h; subst h; exact e hq
    have rw2 := (rw1.perm hnd hlt).tight
    have := rw2.whole ow (Own.inBlk ow)
    exact this
end Go.Proofs.YtdjdagcgodpgdaaGreat
