/-
  Orbits and what keeps: a group's order is the number of images times the number of keepers.
-/
import Derived.Test.YtdjdagcgodpgdaaGreatPats
set_option linter.unusedVariables false
namespace Go.Proofs.YtdjdagcgodpgdaaGreat.Perms

theorem mem_erase' {α : Type} [DecidableEq α] {x y : α} {a b : List α} (h1 : x ∉ a) (hy : y ∈ a) (hb : y ∈ b) : y ∈ b.erase x := (List.mem_erase_of_ne (by intro e; subst e; exact h1 hy)).2 hb
theorem nodup_inj {α : Type} {l : List α} (h : l.Nodup) {i j : Nat} {x : α} (hi : l[i]? = some x) (hj : l[j]? = some x) : i = j := by
  unfold List.Nodup at h
  rw [List.pairwise_iff_getElem] at h
  obtain ⟨a1, a2⟩ := List.getElem?_eq_some_iff.1 hi
  obtain ⟨b1, b2⟩ := List.getElem?_eq_some_iff.1 hj
  rcases Nat.lt_trichotomy i j with e | e | e
  · exact absurd (a2.trans b2.symm) (h i j a1 b1 e)
  · exact e
  · exact absurd (b2.trans a2.symm) (h j i b1 a1 e)
theorem subset_len {α : Type} [DecidableEq α] : ∀ {a b : List α}, a.Nodup → (∀ x ∈ a, x ∈ b) → a.length ≤ b.length
  | [], _, _, _ => Nat.zero_le _
  | x :: a, b, hn, hs => by
    obtain ⟨h1, h2⟩ := List.nodup_cons.1 hn
    have hx := hs x (by simp)
    have := subset_len (b := b.erase x) h2 fun y hy => mem_erase' h1 hy (hs y (by simp [hy]))
    rw [List.length_erase_of_mem hx] at this
    have : 0 < b.length := List.length_pos_of_mem hx
    simp only [List.length_cons]
    omega
theorem subset_back {α : Type} [DecidableEq α] : ∀ {a b : List α}, a.Nodup → (∀ x ∈ a, x ∈ b) → b.length ≤ a.length → ∀ y ∈ b, y ∈ a
  | [], b, _, _, hl, y, hy => by have := List.length_pos_of_mem hy; simp only [List.length_nil] at hl; omega
  | x :: a, b, hn, hs, hl, y, hy => by
    obtain ⟨h1, h2⟩ := List.nodup_cons.1 hn
    have hx := hs x (by simp)
    by_cases e : y = x
    · simp [e]
    have hy' : y ∈ b.erase x := (List.mem_erase_of_ne e).2 hy
    have := subset_back (b := b.erase x) h2 (fun z hz => mem_erase' h1 hz (hs z (by simp [hz]))) (by
      rw [List.length_erase_of_mem hx]; simp only [List.length_cons] at hl; omega) y hy'
    simp [this]
theorem nodup_map_on {α β : Type} {f : α → β} : ∀ {l : List α}, l.Nodup → (∀ x ∈ l, ∀ y ∈ l, f x = f y → x = y) → (l.map f).Nodup
  | [], _, _ => by simp
  | x :: l, hn, hi => by
    obtain ⟨h1, h2⟩ := List.nodup_cons.1 hn
    rw [List.map_cons, List.nodup_cons]
    refine ⟨fun hm => ?_, nodup_map_on h2 fun a ha b hb => hi a (by simp [ha]) b (by simp [hb])⟩
    obtain ⟨z, hz, e⟩ := List.mem_map.1 hm
    have := hi z (by simp [hz]) x (by simp) e
    exact h1 (this ▸ hz)
theorem inj_len {α β : Type} [DecidableEq β] {f : α → β} {a : List α} {b : List β} (hn : a.Nodup) (hm : ∀ x ∈ a, f x ∈ b) (hi : ∀ x ∈ a, ∀ y ∈ a, f x = f y → x = y) : a.length ≤ b.length := by
  have := subset_len (b := b) (nodup_map_on hn hi) (fun y hy => by
    obtain ⟨x, hx, rfl⟩ := List.mem_map.1 hy
    exact hm x hx)
  rwa [List.length_map] at this
theorem inj_surj {α : Type} [DecidableEq α] {f : α → α} {a : List α} (hn : a.Nodup) (hm : ∀ x ∈ a, f x ∈ a) (hi : ∀ x ∈ a, ∀ y ∈ a, f x = f y → x = y) : ∀ y ∈ a, ∃ x ∈ a, f x = y := fun y hy => by
  have := subset_back (b := a) (nodup_map_on hn hi) (fun y hy => by
    obtain ⟨x, hx, rfl⟩ := List.mem_map.1 hy
    exact hm x hx) (by rw [List.length_map]; exact Nat.le_refl _) y hy
  exact List.mem_map.1 this
theorem fibers {α β : Type} [DecidableEq β] {f : α → β} {m : Nat} : ∀ {ys : List β} {g : List α}, ys.Nodup → (∀ x ∈ g, f x ∈ ys) → (∀ y ∈ ys, (g.filter fun x => decide (f x = y)).length = m) → g.length = ys.length * m
  | [], g, _, hm, _ => by
    cases g with
    | nil => simp
    | cons x g => exact absurd (hm x (by simp)) (by simp)
  | y :: ys, g, hn, hm, hc => by
    obtain ⟨h1, h2⟩ := List.nodup_cons.1 hn
    have ih := fibers (f := f) (m := m) (ys := ys) (g := g.filter fun x => !decide (f x = y)) h2 (fun x hx => by
      obtain ⟨hx1, hx2⟩ := List.mem_filter.1 hx
      have := hm x hx1
      simp at hx2
      rcases List.mem_cons.1 this with e | e
      · exact absurd e hx2
      · exact e) (fun z hz => by
      rw [List.filter_filter, ← hc z (by simp [hz])]
      congr 1
      apply List.filter_congr
      intro x _
      by_cases e : f x = z
      · have : z ≠ y := fun e => h1 (e ▸ hz)
        simp [e, this]
      · simp [e])
    have e0 := hc y (by simp)
    have split : ∀ (l : List α), l.length = (l.filter fun x => decide (f x = y)).length + (l.filter fun x => !decide (f x = y)).length := by
      intro l
      induction l with
      | nil => rfl
      | cons x l ihl =>
        by_cases e : f x = y <;> simp [e, ihl] <;> omega
    rw [split g, ih, e0, List.length_cons, Nat.succ_mul, Nat.add_comm]

/-! ### permutations -/
theorem okTo_nodup {xs : List Int} : ∀ {n : Nat}, n ≤ xs.length → okTo xs n = true → (xs.take n).Nodup
  | 0, _, _ => by simp
  | n + 1, hl, h => by
    have hd := okTo_down (Nat.le_succ n) h
    obtain ⟨x, hx⟩ : ∃ x, xs[n]? = some x := ⟨_, List.getElem?_eq_getElem (by omega)⟩
    rw [List.take_add_one, hx]
    simp only [okTo, hx] at h
    have ih := okTo_nodup (by omega) hd
    simp at h
    obtain ⟨_, _, hni⟩ := h
    rw [List.nodup_append]
    refine ⟨ih, by simp, ?_⟩
    intro a ha b hb e
    simp at hb
    subst hb
    subst e
    exact hni ha
theorem permB_nodup {p : List Int} (h : permB p = true) : p.Nodup := by
  have := okTo_nodup (Nat.le_refl _) (permB_ok h)
  rwa [List.take_length] at this
/-- A permutation reaches each point. -/
theorem permB_surj {p : List Int} (h : permB p = true) {k : Nat} (hk : k < p.length) : ∃ i : Nat, p[i]? = some (k : Int) := by
  have := subset_back (b := (List.range p.length).map fun (n : Nat) => (n : Int)) (permB_nodup h) (fun x hx => by
    obtain ⟨h0, h1⟩ := permB_range h x hx
    exact List.mem_map.2 ⟨x.toNat, by rw [List.mem_range]; omega, by omega⟩) (by simp) k (List.mem_map.2 ⟨k, List.mem_range.2 hk, rfl⟩)
  exact List.getElem?_of_mem this
theorem actTo_at {p l : List Int} (hn : p.Nodup) (hl : p.length = l.length) (hr : ∀ x ∈ p, 0 ≤ x ∧ x < l.length) {i : Nat} {x y : Int} (hx : p[i]? = some x) (hy : l[i]? = some y) :
    ∀ {j : Nat}, i < j → j ≤ l.length → (actTo p l j)[x.toNat]? = some y
  | 0, h, _ => absurd h (Nat.not_lt_zero _)
  | j + 1, h, hj => by
    obtain ⟨x2, hx2⟩ : ∃ x2, p[j]? = some x2 := ⟨_, List.getElem?_eq_getElem (by omega)⟩
    obtain ⟨y2, hy2⟩ : ∃ y2, l[j]? = some y2 := ⟨_, List.getElem?_eq_getElem (by omega)⟩
    simp only [actTo, hx2, hy2]
    have hxr := hr x (List.mem_of_getElem? hx)
    have hxr2 := hr x2 (List.mem_of_getElem? hx2)
    by_cases e : i = j
    · subst e
      rw [hx] at hx2; rw [hy] at hy2
      cases hx2; cases hy2
      rw [List.getElem?_set_self (by rw [actTo_len]; omega)]
    · have hne : x ≠ x2 := fun e2 => by
        subst e2
        exact e (nodup_inj hn hx hx2)
      rw [List.getElem?_set_ne (by omega)]
      exact actTo_at hn hl hr hx hy (by omega) (by omega)
theorem act_at {p l : List Int} (h : permB p = true) (hl : p.length = l.length) {i : Nat} {x y : Int} (hx : p[i]? = some x) (hy : l[i]? = some y) : (act p l)[x.toNat]? = some y :=
  actTo_at (permB_nodup h) hl (fun z hz => by rw [← hl]; exact permB_range h z hz) hx hy (List.getElem?_eq_some_iff.1 hy).1 (Nat.le_refl _)
theorem at_some {l : List Int} {n i : Nat} (hl : l.length = n) (hi : i < n) : ∃ y, l[i]? = some y := ⟨_, List.getElem?_eq_getElem (by omega)⟩
/-- Lists of one length that agree at each point of a permutation. -/
theorem perm_ext {p a b : List Int} (h : permB p = true) (ha : a.length = p.length) (hb : b.length = p.length) (he : ∀ (i : Nat) (x : Int), p[i]? = some x → a[x.toNat]? = b[x.toNat]?) : a = b := by
  apply List.ext_getElem?
  intro k
  by_cases hk : k < p.length
  · obtain ⟨i, hi⟩ := permB_surj h hk
    have := he i _ hi
    simpa using this
  · rw [List.getElem?_eq_none (by omega), List.getElem?_eq_none (by omega)]
theorem act_comp {p q l : List Int} (hp : permB p = true) (hq : permB q = true) (hc : permB (comp p q) = true) (hpl : p.length = l.length) (hql : q.length = l.length) : act (comp p q) l = act q (act p l) := by
  refine perm_ext hc (by rw [act_len, comp_len, hpl]) (by rw [act_len, act_len, comp_len, hpl]) fun i z hz => ?_
  have hi : i < p.length := by have := (List.getElem?_eq_some_iff.1 hz).1; rwa [comp_len] at this
  obtain ⟨x, hx⟩ := at_some rfl hi
  obtain ⟨y, hy⟩ := at_some hpl.symm hi
  obtain ⟨hx0, hx1⟩ := permB_range hp x (List.mem_of_getElem? hx)
  obtain ⟨z2, hz2⟩ := at_some (i := x.toNat) rfl (show x.toNat < q.length by omega)
  have e := comp_get hx hx0 hz2
  rw [hz] at e
  obtain rfl := Option.some.inj e
  rw [act_at hc (by rw [comp_len, hpl]) hz hy, act_at hq (by rw [act_len, hql]) hz2 (act_at hp hpl hx hy)]

/-! ### groups -/
/-- What the proofs use of a group of degree n. -/
structure Grp (g : List (List Int)) (n : Nat) : Prop where
  nodup : g.Nodup
  perm : ∀ p ∈ g, permB p = true
  len : ∀ p ∈ g, p.length = n
  mul : ∀ p ∈ g, ∀ q ∈ g, comp p q ∈ g
theorem Asc.nodup {g : List (List Int)} (h : Asc g) : g.Nodup := by
  unfold List.Nodup
  rw [List.pairwise_iff_getElem]
  intro i j hi hj hij e
  have := h i j _ _ hij (List.getElem?_eq_getElem hi) (List.getElem?_eq_getElem hj)
  rw [e, Words.cmpL_self] at this
  omega
theorem grpB_grp {g : List (List Int)} (h : grpB g = true) : Grp g (row0 g).length := by
  obtain ⟨h1, h2, h3, h4⟩ := grpB_parts h
  exact ⟨(rowsTo_asc h3).nodup, fun p hp => (rowsTo_mem h3 hp).1, fun p hp => (rowsTo_mem h3 hp).2, closed_mem h4⟩
def iota (n : Nat) : List Int := (List.range n).map fun (k : Nat) => (k : Int)
theorem iota_len (n : Nat) : (iota n).length = n := by simp [iota]
theorem iota_get {n i : Nat} (hi : i < n) : (iota n)[i]? = some (i : Int) := by simp [iota, hi]
theorem Grp.val {g : List (List Int)} {n : Nat} (G : Grp g n) {p : List Int} (hp : p ∈ g) {i : Nat} {x : Int} (hx : p[i]? = some x) : 0 ≤ x ∧ x.toNat < n := by
  have := permB_range (G.perm p hp) x (List.mem_of_getElem? hx)
  have := G.len p hp
  omega
theorem Grp.inj {g : List (List Int)} {n : Nat} (G : Grp g n) {p : List Int} (hp : p ∈ g) {i j : Nat} {x : Int} (hi : p[i]? = some x) (hj : p[j]? = some x) : i = j := nodup_inj (permB_nodup (G.perm p hp)) hi hj
theorem Grp.right {g : List (List Int)} {n : Nat} (G : Grp g n) {p q r : List Int} (hp : p ∈ g) (hq : q ∈ g) (hr : r ∈ g) (e : comp q p = comp r p) : q = r := by
  apply List.ext_getElem?
  intro i
  have hql := G.len q hq
  have hrl := G.len r hr
  have hpl := G.len p hp
  by_cases hi : i < n
  · obtain ⟨x, hx⟩ := at_some hql hi
    obtain ⟨y, hy⟩ := at_some hrl hi
    obtain ⟨x0, x1⟩ := G.val hq hx
    obtain ⟨y0, y1⟩ := G.val hr hy
    obtain ⟨z, hz⟩ := at_some hpl x1
    obtain ⟨u, hu⟩ := at_some hpl y1
    have a := comp_get hx x0 hz
    have b := comp_get hy y0 hu
    rw [e, b] at a
    cases a
    have := G.inj hp hz hu
    rw [hx, hy]
    congr 1
    omega
  · rw [List.getElem?_eq_none (by omega), List.getElem?_eq_none (by omega)]
theorem Grp.left {g : List (List Int)} {n : Nat} (G : Grp g n) {p q r : List Int} (hp : p ∈ g) (hq : q ∈ g) (hr : r ∈ g) (e : comp p q = comp p r) : q = r := by
  have hpl := G.len p hp
  refine perm_ext (G.perm p hp) (by rw [G.len q hq, hpl]) (by rw [G.len r hr, hpl]) fun i x hx => ?_
  obtain ⟨x0, x1⟩ := G.val hp hx
  obtain ⟨z, hz⟩ := at_some (G.len q hq) x1
  obtain ⟨u, hu⟩ := at_some (G.len r hr) x1
  have a := comp_get hx x0 hz
  have b := comp_get hx x0 hu
  rw [e, b] at a
  rw [hz, hu, a]
theorem Grp.one {g : List (List Int)} {n : Nat} (G : Grp g n) (h0 : g ≠ []) : iota n ∈ g := by
  obtain ⟨p, hp⟩ := List.exists_mem_of_ne_nil g h0
  obtain ⟨e, he, hep⟩ := inj_surj (f := fun q => comp q p) G.nodup (fun q hq => G.mul q hq p hp) (fun q hq r hr h => G.right hp hq hr h) p hp
  have : e = iota n := by
    apply List.ext_getElem?
    intro i
    by_cases hi : i < n
    · obtain ⟨x, hx⟩ := at_some (G.len e he) hi
      obtain ⟨x0, x1⟩ := G.val he hx
      obtain ⟨z, hz⟩ := at_some (G.len p hp) x1
      have a := comp_get hx x0 hz
      rw [show comp e p = p from hep] at a
      have := G.inj hp a hz
      rw [hx, iota_get hi]
      congr 1
      omega
    · rw [List.getElem?_eq_none (by rw [G.len e he]; omega), List.getElem?_eq_none (by rw [iota_len]; omega)]
  exact this ▸ he
theorem Grp.inv {g : List (List Int)} {n : Nat} (G : Grp g n) {p : List Int} (hp : p ∈ g) : ∃ q ∈ g, comp p q = iota n := by
  have h1 := G.one (List.ne_nil_of_mem hp)
  exact inj_surj (f := fun q => comp p q) G.nodup (fun q hq => G.mul p hp q hq) (fun q hq r hr h => G.left hp hq hr h) _ h1
theorem Grp.inv' {g : List (List Int)} {n : Nat} (G : Grp g n) {p : List Int} (hp : p ∈ g) : ∃ q ∈ g, comp q p = iota n := by
  have h1 := G.one (List.ne_nil_of_mem hp)
  exact inj_surj (f := fun q => comp q p) G.nodup (fun q hq => G.mul q hq p hp) (fun q hq r hr h => G.right hp hq hr h) _ h1
theorem Grp.act_mul {g : List (List Int)} {n : Nat} (G : Grp g n) {p q l : List Int} (hp : p ∈ g) (hq : q ∈ g) (hl : l.length = n) : act (comp p q) l = act q (act p l) :=
  act_comp (G.perm p hp) (G.perm q hq) (G.perm _ (G.mul p hp q hq)) (by rw [G.len p hp, hl]) (by rw [G.len q hq, hl])
theorem Grp.act_one {g : List (List Int)} {n : Nat} (G : Grp g n) (h0 : g ≠ []) {l : List Int} (hl : l.length = n) : act (iota n) l = l := by
  have h1 := G.perm _ (G.one h0)
  refine perm_ext h1 (by rw [act_len, iota_len, hl]) (by rw [iota_len, hl]) fun i x hx => ?_
  have hi : i < n := by have := (List.getElem?_eq_some_iff.1 hx).1; rwa [iota_len] at this
  obtain ⟨y, hy⟩ := at_some hl hi
  rw [act_at h1 (by rw [iota_len, hl]) hx hy]
  rw [iota_get hi] at hx
  cases hx
  simpa using hy.symm
theorem Grp.act_inj {g : List (List Int)} {n : Nat} (G : Grp g n) {p a b : List Int} (hp : p ∈ g) (ha : a.length = n) (hb : b.length = n) (e : act p a = act p b) : a = b := by
  obtain ⟨q, hq, hpq⟩ := G.inv hp
  have h0 := List.ne_nil_of_mem hp
  rw [← G.act_one h0 ha, ← G.act_one h0 hb, ← hpq, G.act_mul hp hq ha, G.act_mul hp hq hb, e]
theorem keep_mem {g : List (List Int)} {l p : List Int} : p ∈ keep g l ↔ p ∈ g ∧ act p l = l := by unfold keep; simp
theorem Grp.keep_pos {g : List (List Int)} {n : Nat} (G : Grp g n) (h0 : g ≠ []) {l : List Int} (hl : l.length = n) : 0 < (keep g l).length :=
  List.length_pos_of_mem (keep_mem.2 ⟨G.one h0, G.act_one h0 hl⟩)
theorem Grp.fiber {g : List (List Int)} {n : Nat} (G : Grp g n) {p l : List Int} (hp : p ∈ g) (hl : l.length = n) : (g.filter fun x => decide (act x l = act p l)).length = (keep g l).length := by
  obtain ⟨q, hq, hpq⟩ := G.inv hp
  have h0 := List.ne_nil_of_mem hp
  apply Nat.le_antisymm
  · refine inj_len (f := fun x => comp x q) (G.nodup.sublist List.filter_sublist) (fun x hx => ?_) (fun x hx y hy e => G.right hq (List.mem_filter.1 hx).1 (List.mem_filter.1 hy).1 e)
    obtain ⟨h1, h2⟩ := List.mem_filter.1 hx
    have h2 := of_decide_eq_true h2
    exact keep_mem.2 ⟨G.mul x h1 q hq, by rw [G.act_mul h1 hq hl, h2, ← G.act_mul hp hq hl, hpq, G.act_one h0 hl]⟩
  · refine inj_len (f := fun x => comp x p) (G.nodup.sublist List.filter_sublist) (fun x hx => ?_) (fun x hx y hy e => G.right hp (keep_mem.1 hx).1 (keep_mem.1 hy).1 e)
    obtain ⟨h1, h2⟩ := keep_mem.1 hx
    exact List.mem_filter.2 ⟨G.mul x h1 p hp, decide_eq_true (by rw [G.act_mul h1 hp hl, h2])⟩
/-- The images of a coloring, in the order in which the group reaches them. -/
def imTo (g : List (List Int)) (l : List Int) : Nat → List (List Int)
  | 0 => []
  | j + 1 => match g[j]? with
    | some p => if act p l ∈ imTo g l j then imTo g l j else imTo g l j ++ [act p l]
    | none => imTo g l j
def im (g : List (List Int)) (l : List Int) : List (List Int) := imTo g l g.length
theorem imTo_step {g : List (List Int)} {l p : List Int} {j : Nat} (hp : g[j]? = some p) : imTo g l (j + 1) = if act p l ∈ imTo g l j then imTo g l j else imTo g l j ++ [act p l] := by
  simp only [imTo]; rw [hp]
theorem imTo_nodup (g : List (List Int)) (l : List Int) : ∀ j, (imTo g l j).Nodup
  | 0 => by simp [imTo]
  | j + 1 => by
    have ih := imTo_nodup g l j
    simp only [imTo]
    split
    · split
      · exact ih
      · rename_i h
        rw [List.nodup_append]
        refine ⟨ih, by simp, ?_⟩
        intro a ha b hb e
        simp at hb
        subst hb; subst e
        exact h ha
    · exact ih
theorem imTo_len (g : List (List Int)) (l : List Int) : ∀ j, (imTo g l j).length ≤ j
  | 0 => by simp [imTo]
  | j + 1 => by
    have ih := imTo_len g l j
    simp only [imTo]
    split
    · split
      · omega
      · simp; omega
    · omega
theorem imTo_mem {g : List (List Int)} {l y : List Int} : ∀ {j : Nat}, j ≤ g.length → (y ∈ imTo g l j ↔ ∃ p ∈ g.take j, act p l = y)
  | 0, _ => by simp [imTo]
  | j + 1, hj => by
    have ih := imTo_mem (g := g) (l := l) (y := y) (j := j) (by omega)
    obtain ⟨p, hp⟩ : ∃ p, g[j]? = some p := ⟨_, List.getElem?_eq_getElem (by omega)⟩
    rw [imTo_step hp, List.take_add_one, hp]
    constructor
    · intro h
      split at h
      · obtain ⟨q, h1, h2⟩ := ih.1 h
        exact ⟨q, by simp [h1], h2⟩
      · rcases List.mem_append.1 h with h | h
        · obtain ⟨q, h1, h2⟩ := ih.1 h
          exact ⟨q, by simp [h1], h2⟩
        · simp at h
          exact ⟨p, by simp, h.symm⟩
    · rintro ⟨q, h1, h2⟩
      rcases List.mem_append.1 h1 with h1 | h1
      · have := ih.2 ⟨q, h1, h2⟩
        split
        · exact this
        · exact List.mem_append_left _ this
      · simp at h1
        subst h1
        subst h2
        split
        · assumption
        · simp
theorem im_mem {g : List (List Int)} {l y : List Int} : y ∈ im g l ↔ ∃ p ∈ g, act p l = y := by
  unfold im; rw [imTo_mem (Nat.le_refl _), List.take_length]
/-- Images times keepers are the order. -/
theorem Grp.orbit {g : List (List Int)} {n : Nat} (G : Grp g n) {l : List Int} (hl : l.length = n) : g.length = (im g l).length * (keep g l).length :=
  fibers (f := fun p => act p l) (imTo_nodup g l _) (fun x hx => im_mem.2 ⟨x, hx, rfl⟩) fun y hy => by
    obtain ⟨p, hp, rfl⟩ := im_mem.1 hy
    exact G.fiber hp hl
def imagesN (g : List (List Int)) (l : List Int) : Nat := if fitsB g l = true then (im g l).length else 0
theorem images_div {g : List (List Int)} {l : List Int} (h : fitsB g l = true) : 0 < (keep g l).length ∧ g.length / (keep g l).length = (im g l).length := by
  obtain ⟨h1, h2, h3⟩ := fitsB_parts h
  have G := grpB_grp h1
  have h0 : g ≠ [] := List.ne_nil_of_length_pos (by have := (grpB_parts h1).1; omega)
  have hp := G.keep_pos h0 h3
  refine ⟨hp, ?_⟩
  rw [G.orbit h3, Nat.mul_div_cancel _ hp]
end Go.Proofs.YtdjdagcgodpgdaaGreat.Perms
