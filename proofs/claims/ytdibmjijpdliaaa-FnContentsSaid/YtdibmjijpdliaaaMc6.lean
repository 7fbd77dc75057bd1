/-
  Part 6 of 6 of what the law FnContents rests on.
-/
import Derived.Test.YtdibmjijpdliaaaMc5
set_option maxRecDepth 20000
/- What the law on contents asks. No program in sight. -/
set_option linter.unusedVariables false
namespace Go.Proofs.Ytdibmjijpdliaaa.Perms

theorem contsB_of {c : List Int} {n : Nat} (hl : c.length ≤ 4) (h0 : ∀ x ∈ c, 0 ≤ x ∧ x ≤ n) (hn : n ≤ 10) (hs : inSum c = n) : contsB c n = true := by
  unfold contsB
  simp only [Bool.and_eq_true, decide_eq_true_eq, List.all_eq_true]
  exact ⟨⟨hl, fun x hx => by have := h0 x hx; omega⟩, hs⟩
theorem fixO_eq {p c : List Int} {n : Nat} (hp : permB p = true) (hn : p.length = n) (hc : contsB c n = true) : fixO p c = ((ways ((cells p).map List.length) c : Nat) : Int) := by
  unfold fixO
  rw [hn, if_pos ⟨hp, hc⟩, cells_lens]
theorem conTo_nat {g : List (List Int)} {n : Nat} (G : Grp g n) {c : List Int} (hc : contsB c n = true) : ∀ j, j ≤ g.length → conTo g c j = ((((g.take j).map fun p => ways ((cells p).map List.length) c).sum : Nat) : Int)
  | 0, _ => rfl
  | j + 1, h => by
    have hg : g[j]? = some g[j] := List.getElem?_eq_getElem (by omega)
    have e : g.getD j [] = g[j] := by simp [List.getD, hg]
    have hm := List.getElem_mem (show j < g.length by omega)
    rw [conTo, conTo_nat G hc j (by omega), List.take_add_one, hg, e, fixO_eq (G.perm _ hm) (G.len _ hm) hc, List.map_append, List.sum_append, Option.toList_some, List.map_cons, List.map_nil, List.sum_cons, List.sum_nil]
    omega
/-- Patterns of a content. -/
def patsC (g : List (List Int)) (c : List Int) : Nat := ((pats g c.length).filter (contB c.length c)).length
theorem conO_eq {g : List (List Int)} {c : List Int} (h : grpB g = true) (hn : (row0 g).length ≤ 6) (hl : c.length ≤ 4) (h0 : ∀ x ∈ c, 0 ≤ x ∧ x ≤ ((row0 g).length : Int)) (hs : inSum c = (row0 g).length) : conO g c = patsC g c := by
  have hp := (grpB_parts h).1
  have G := grpB_grp h
  unfold conO
  rw [if_pos h, conTo_nat G (contsB_of hl h0 (by omega) hs) _ (Nat.le_refl _), List.take_length, G.count_cont (grp_ne h) hn rfl (fun x hx => (h0 x hx).1) hs, Int.natCast_mul]
  unfold patsC
  rw [pats_reps, Int.toNat_natCast]
  exact Int.mul_ediv_cancel _ (by omega)
theorem inSum2 (a b : Int) : inSum [a, b] = a + b := by simp [inSum]
theorem inSum3 (a b c : Int) : inSum [a, b, c] = a + (b + c) := by simp [inSum]
theorem num_cons (x y : Int) (w : List Int) : num (x :: w) y = (if x = y then 1 else 0) + num w y := by
  unfold num
  rw [List.filter_cons]
  by_cases e : x = y
  · rw [if_pos (by simpa using e), if_pos e, List.length_cons]; omega
  · rw [if_neg (by simpa using e), if_neg e]; omega
theorem num_sum2 : ∀ {w : List Int}, (∀ x ∈ w, 0 ≤ x ∧ x < 2) → num w 0 + num w 1 = w.length
  | [], _ => rfl
  | x :: w, h => by
    have ih := num_sum2 (w := w) fun y hy => h y (List.mem_cons_of_mem _ hy)
    have hx := h x List.mem_cons_self
    rw [num_cons, num_cons, List.length_cons]
    by_cases e : x = 0
    · rw [if_pos e, if_neg (by omega)]; omega
    · rw [if_neg e, if_pos (by omega)]; omega
theorem num_sum3 : ∀ {w : List Int}, (∀ x ∈ w, 0 ≤ x ∧ x < 3) → num w 0 + num w 1 + num w 2 = w.length
  | [], _ => rfl
  | x :: w, h => by
    have ih := num_sum3 (w := w) fun y hy => h y (List.mem_cons_of_mem _ hy)
    have hx := h x List.mem_cons_self
    rw [num_cons, num_cons, num_cons, List.length_cons]
    by_cases e : x = 0
    · rw [if_pos e, if_neg (by omega), if_neg (by omega)]; omega
    · by_cases e1 : x = 1
      · rw [if_neg e, if_pos e1, if_neg (by omega)]; omega
      · rw [if_neg e, if_neg e1, if_pos (by omega)]; omega
theorem contB2 {w : List Int} {a b : Int} : contB 2 [a, b] w = true ↔ (num w 0 : Int) = a ∧ (num w 1 : Int) = b := by
  unfold contB
  rw [List.all_eq_true]
  constructor
  · intro h
    exact ⟨of_decide_eq_true (h 0 (by simp)), of_decide_eq_true (h 1 (by simp))⟩
  · rintro ⟨h1, h2⟩ x hx
    have hx := List.mem_range.1 hx
    match x, hx with
    | 0, _ => exact decide_eq_true h1
    | 1, _ => exact decide_eq_true h2
theorem contB3 {w : List Int} {a b c : Int} : contB 3 [a, b, c] w = true ↔ (num w 0 : Int) = a ∧ (num w 1 : Int) = b ∧ (num w 2 : Int) = c := by
  unfold contB
  rw [List.all_eq_true]
  constructor
  · intro h
    exact ⟨of_decide_eq_true (h 0 (by simp)), of_decide_eq_true (h 1 (by simp)), of_decide_eq_true (h 2 (by simp))⟩
  · rintro ⟨h1, h2, h3⟩ x hx
    have hx := List.mem_range.1 hx
    match x, hx with
    | 0, _ => exact decide_eq_true h1
    | 1, _ => exact decide_eq_true h2
    | 2, _ => exact decide_eq_true h3
/-- Sums, step by step. -/
def sumI (f : Nat → Int) : Nat → Int
  | 0 => 0
  | j + 1 => sumI f j + f j
theorem sumI_nat {f : Nat → Int} {h : Nat → Nat} : ∀ j, (∀ k, k < j → f k = (h k : Int)) → sumI f j = ((((List.range j).map h).sum : Nat) : Int)
  | 0, _ => rfl
  | j + 1, e => by
    rw [sumI, sumI_nat j fun k hk => e k (by omega), e j (by omega), List.range_succ, List.map_append, List.sum_append, List.map_cons, List.map_nil, List.sum_cons, List.sum_nil]
    omega
theorem fib_len {α : Type} (f : α → Nat) (m : Nat) {W : List α} (h : ∀ x ∈ W, f x < m) : W.length = ((List.range m).map fun k => (W.filter fun x => decide (f x = k)).length).sum := by
  rw [← sum_length W, sum_fibers (f := f) (k := fun _ => 1) List.nodup_range fun x hx => List.mem_range.2 (h x hx)]
  exact sum_congr fun k _ => sum_length _
theorem conO2 {g : List (List Int)} (h : grpB g = true) {n : Nat} (hr : (row0 g).length = n) (hn : n ≤ 6) {k : Nat} (hk : k ≤ n) : conO g [(n : Int) - k, k] = ((((pats g 2).filter fun w => decide (num w 1 = k)).length : Nat) : Int) := by
  rw [conO_eq h (by omega) (by simp) (fun x hx => by simp at hx; omega) (by rw [inSum2]; omega)]
  unfold patsC
  have e : (pats g (([(n : Int) - k, (k : Int)] : List Int).length : Int)).filter (contB ([(n : Int) - k, (k : Int)] : List Int).length [(n : Int) - k, k]) = (pats g 2).filter fun w => decide (num w 1 = k) := by
    refine List.filter_congr fun w hw => ?_
    obtain ⟨h1, h2⟩ := (pats_mem.1 hw).1
    have hs := num_sum2 (w := w) fun x hx => h2 x hx
    rw [Bool.eq_iff_iff, decide_eq_true_eq]
    refine Iff.trans contB2 ?_
    omega
  rw [e]
theorem conO3 {g : List (List Int)} (h : grpB g = true) {n : Nat} (hr : (row0 g).length = n) (hn : n ≤ 6) {a b : Nat} (hk : a + b ≤ n) : conO g [(a : Int), b, (n : Int) - a - b] = (((((pats g 3).filter fun w => decide (num w 0 = a)).filter fun w => decide (num w 1 = b)).length : Nat) : Int) := by
  rw [conO_eq h (by omega) (by simp) (fun x hx => by simp at hx; omega) (by rw [inSum3]; omega)]
  unfold patsC
  have e : (pats g (([(a : Int), (b : Int), (n : Int) - a - b] : List Int).length : Int)).filter (contB ([(a : Int), (b : Int), (n : Int) - a - b] : List Int).length [(a : Int), (b : Int), (n : Int) - a - b]) = ((pats g 3).filter fun w => decide (num w 0 = a)).filter fun w => decide (num w 1 = b) := by
    rw [List.filter_filter]
    refine List.filter_congr fun w hw => ?_
    obtain ⟨h1, h2⟩ := (pats_mem.1 hw).1
    have hs := num_sum3 (w := w) fun x hx => h2 x hx
    rw [Bool.eq_iff_iff, Bool.and_eq_true, decide_eq_true_eq, decide_eq_true_eq]
    refine Iff.trans contB3 ?_
    omega
  rw [e]
theorem two_sum {g : List (List Int)} (h : grpB g = true) {n : Nat} (hr : (row0 g).length = n) (hn : n ≤ 6) : sumI (fun k => conO g [(n : Int) - k, k]) (n + 1) = colO g 2 := by
  rw [colO_eq h (by omega) (by omega) (by omega), sumI_nat (n + 1) fun k hk => conO2 h hr hn (by omega), ← fib_len (fun w => num w 1) (n + 1) fun w hw => ?_]
  obtain ⟨h1, h2⟩ := (pats_mem.1 hw).1
  have := num_sum2 (w := w) fun x hx => h2 x hx
  omega
theorem three_sum {g : List (List Int)} (h : grpB g = true) {n : Nat} (hr : (row0 g).length = n) (hn : n ≤ 6) : sumI (fun a => sumI (fun b => conO g [(a : Int), b, (n : Int) - a - b]) (n - a + 1)) (n + 1) = colO g 3 := by
  rw [colO_eq h (by omega) (by omega) (by omega), fib_len (fun w => num w 0) (n + 1) fun w hw => ?_]
  · refine sumI_nat (n + 1) fun a ha => ?_
    rw [sumI_nat (n - a + 1) fun b hb => conO3 h hr hn (by omega), ← fib_len (fun w => num w 1) (n - a + 1) fun w hw => ?_]
    obtain ⟨hw, h3⟩ := List.mem_filter.1 hw
    obtain ⟨h1, h2⟩ := (pats_mem.1 hw).1
    have := num_sum3 (w := w) fun x hx => h2 x hx
    have := of_decide_eq_true h3
    omega
  · obtain ⟨h1, h2⟩ := (pats_mem.1 hw).1
    have := num_sum3 (w := w) fun x hx => h2 x hx
    omega
theorem kept_sum {p : List Int} (hp : permB p = true) {n : Nat} (hl : p.length = n) (hn : n ≤ 6) : sumI (fun k => fixO p [(n : Int) - k, k]) (n + 1) = ((2 ^ (cycles p).length : Nat) : Int) := by
  have C := CycOk.of (cyc_ok hp (by omega))
  have e : ∀ k, k < n + 1 → fixO p [(n : Int) - k, k] = ((((wordsN 2 n).filter fun x => decide (act p x = x)).filter fun w => decide (num w 1 = k)).length : Int) := fun k hk => by
    rw [fixO_eq hp hl (contsB_of (by simp) (fun x hx => by simp at hx; omega) (by omega) (by rw [inSum2]; omega)), ← kept_ways C hp 2 [(n : Int) - k, k] rfl (fun x hx => by simp at hx; omega) (by rw [inSum2]; omega), hl, List.filter_filter, List.filter_filter]
    congr 2
    refine List.filter_congr fun w hw => ?_
    obtain ⟨h1, h2⟩ := wordsN_mem.1 hw
    have hs := num_sum2 (w := w) fun x hx => h2 x hx
    rw [Bool.and_comm, Bool.eq_iff_iff, Bool.and_eq_true, Bool.and_eq_true, decide_eq_true_eq, decide_eq_true_eq]
    refine and_congr ?_ Iff.rfl
    refine Iff.trans contB2 ?_
    omega
  rw [sumI_nat (n + 1) e, ← fib_len (fun w => num w 1) (n + 1) fun w hw => ?_, ← cells_length, ← kept_len C hp 2, hl]
  obtain ⟨hw, _⟩ := List.mem_filter.1 hw
  obtain ⟨h1, h2⟩ := wordsN_mem.1 hw
  have := num_sum2 (w := w) fun x hx => h2 x hx
  omega
theorem num_rep (x y : Int) : ∀ n, num (List.replicate n x) y = if x = y then n else 0
  | 0 => by simp [num]
  | n + 1 => by
    rw [List.replicate_succ, num_cons, num_rep x y n]
    by_cases e : x = y
    · rw [if_pos e, if_pos e, if_pos e]; omega
    · rw [if_neg e, if_neg e, if_neg e]
theorem num_app (a b : List Int) (y : Int) : num (a ++ b) y = num a y + num b y := by unfold num; rw [List.filter_append, List.length_append]
/-- Each content has a pattern. -/
theorem con_pos {g : List (List Int)} (h : grpB g = true) {n : Nat} (hr : (row0 g).length = n) (hn : n ≤ 6) {k : Nat} (hk : k ≤ n) : 1 ≤ conO g [(n : Int) - k, k] := by
  have G := grpB_grp h
  have h0 := grp_ne h
  rw [hr] at G
  rw [conO2 h hr hn hk]
  have hw : List.replicate (n - k) (0 : Int) ++ List.replicate k 1 ∈ wordsN 2 n := wordsN_mem.2 ⟨by simp; omega, fun x hx => by
    rcases List.mem_append.1 hx with hx | hx <;> rw [List.eq_of_mem_replicate hx] <;> omega⟩
  have hc := (G.acts 2).canon_mem G h0 hw
  obtain ⟨p, hp, e⟩ := G.canon_in h0 (wordsN_mem.1 hw).1
  have hn1 : num (canon g (List.replicate (n - k) (0 : Int) ++ List.replicate k 1)) 1 = k := by
    have hna := G.num_act hp (wordsN_mem.1 hw).1 1
    rw [show ((1 : Nat) : Int) = 1 from rfl] at hna
    rw [e, hna, num_app, num_rep, num_rep]
    simp
  have : 0 < ((pats g 2).filter fun w => decide (num w 1 = k)).length := List.length_pos_of_mem (List.mem_filter.2 ⟨by rw [pats_reps, hr]; exact hc, decide_eq_true hn1⟩)
  omega
theorem con_none {g : List (List Int)} (h : grpB g = true) {n : Nat} (hr : (row0 g).length = n) (hn : n ≤ 6) : conO g [(n : Int), 0] = 1 := by
  have h1 := con_pos h hr hn (k := 0) (by omega)
  have h2 := conO2 h hr hn (k := 0) (by omega)
  rw [Int.natCast_zero, Int.sub_zero] at h1 h2
  have h3 : ((pats g 2).filter fun w => decide (num w 1 = 0)).length ≤ 1 := by
    refine subset_len (b := [List.replicate n 0]) ((pats_asc g 2).nodup.sublist List.filter_sublist) fun w hw => ?_
    obtain ⟨hw, h3⟩ := List.mem_filter.1 hw
    obtain ⟨h4, h5⟩ := (pats_mem.1 hw).1
    have := num_sum2 (w := w) fun x hx => h5 x hx
    have := of_decide_eq_true h3
    have := num_all (w := w) (by omega)
    rw [this, h4, hr]
    simp
  omega
theorem con_one {g : List (List Int)} (h : grpB g = true) {n : Nat} (hr : (row0 g).length = n) (hn : n ≤ 6) (h1 : 1 ≤ n) : conO g [(n : Int) - 1, 1] = ((maxs g n).length : Int) := by
  have h2 := conO2 h hr hn (k := 1) (by omega)
  rw [show ((1 : Nat) : Int) = 1 from rfl] at h2
  have h3 := one_pats h (k := 2) (by omega)
  rw [h2, ← hr, show (maxs g (row0 g).length).length = (maxs g (row0 g).length).length * ((2 : Int).toNat - 1) from by show _ = _ * 1; omega, ← h3]
  congr 2
  refine List.filter_congr fun w hw => ?_
  obtain ⟨h4, h5⟩ := (pats_mem.1 hw).1
  have := num_sum2 (w := w) fun x hx => h5 x hx
  rw [Bool.eq_iff_iff, decide_eq_true_eq, decide_eq_true_eq]
  omega

/-! ### exchanged contents -/
theorem ways2 (c : Nat) (cs : List Nat) (a b : Int) : ways (c :: cs) [a, b] = (if (c : Int) ≤ a then ways cs [a - c, b] else 0) + (if (c : Int) ≤ b then ways cs [a, b - c] else 0) := by
  simp [ways, List.range_succ]
theorem ways3 (c : Nat) (cs : List Nat) (a b d : Int) : ways (c :: cs) [a, b, d] = (if (c : Int) ≤ a then ways cs [a - c, b, d] else 0) + (if (c : Int) ≤ b then ways cs [a, b - c, d] else 0) + (if (c : Int) ≤ d then ways cs [a, b, d - c] else 0) := by
  simp [ways, List.range_succ]
  omega
theorem ways_swap : ∀ (cs : List Nat) (a b : Int), ways cs [a, b] = ways cs [b, a]
  | [], _, _ => rfl
  | c :: cs, a, b => by rw [ways2, ways2, ways_swap cs (a - c) b, ways_swap cs a (b - c), Nat.add_comm]
theorem ways_turn : ∀ (cs : List Nat) (a b d : Int), ways cs [a, b, d] = ways cs [d, a, b]
  | [], _, _, _ => rfl
  | c :: cs, a, b, d => by
    rw [ways3, ways3, ways_turn cs (a - c) b d, ways_turn cs a (b - c) d, ways_turn cs a b (d - c)]
    omega
theorem conTo_congr {g : List (List Int)} {c d : List Int} (h : ∀ p ∈ g, fixO p c = fixO p d) : ∀ j, j ≤ g.length → conTo g c j = conTo g d j
  | 0, _ => rfl
  | j + 1, hj => by
    have e : g.getD j [] = g[j] := by simp [List.getD, List.getElem?_eq_getElem (show j < g.length by omega)]
    rw [conTo, conTo, conTo_congr h j (by omega), e, h _ (List.getElem_mem (show j < g.length by omega))]
theorem conO_congr {g : List (List Int)} {c d : List Int} (h : ∀ p ∈ g, fixO p c = fixO p d) : conO g c = conO g d := by
  unfold conO
  rw [conTo_congr h _ (Nat.le_refl _)]
theorem contsB_swap {a b n : Int} : contsB [a, b] n = contsB [b, a] n := by
  unfold contsB
  rw [inSum2, inSum2, Int.add_comm a b]
  simp only [List.all_cons, List.all_nil, Bool.and_true, List.length_cons, List.length_nil]
  rw [Bool.and_comm (decide (0 ≤ a ∧ a ≤ 10))]
theorem contsB_turn {a b d n : Int} : contsB [a, b, d] n = contsB [d, a, b] n := by
  unfold contsB
  rw [inSum3, inSum3, show a + (b + d) = d + (a + b) from by omega]
  simp only [List.all_cons, List.all_nil, Bool.and_true, List.length_cons, List.length_nil]
  rw [Bool.eq_iff_iff]
  simp only [Bool.and_eq_true, decide_eq_true_eq]
  constructor <;> (intro h; omega)
theorem con_swap (g : List (List Int)) (a b : Int) : conO g [a, b] = conO g [b, a] := conO_congr fun p _ => by
  unfold fixO; rw [contsB_swap, ways_swap]
theorem con_turn (g : List (List Int)) (a b d : Int) : conO g [a, b, d] = conO g [d, a, b] := conO_congr fun p _ => by
  unfold fixO; rw [contsB_turn, ways_turn]

/-! ### orbits of points -/
theorem orbS_mem {g : List (List Int)} {j y : Nat} {s0 : List Nat} : ∀ t, y ∈ (orbS g j s0 t).1 ↔ y ∈ s0 ∨ ∃ i, i < t ∧ y = ((g.getD i []).getD j 0).toNat
  | 0 => by simp [orbS]
  | t + 1 => by
    have ih := orbS_mem (g := g) (j := j) (y := y) (s0 := s0) t
    have hs : (∃ i, i < t + 1 ∧ y = ((g.getD i []).getD j 0).toNat) ↔ (∃ i, i < t ∧ y = ((g.getD i []).getD j 0).toNat) ∨ y = ((g.getD t []).getD j 0).toNat := by
      constructor
      · rintro ⟨i, hi, e⟩
        by_cases h : i = t
        · subst h; exact .inr e
        · exact .inl ⟨i, by omega, e⟩
      · rintro (⟨i, hi, e⟩ | e)
        · exact ⟨i, by omega, e⟩
        · exact ⟨t, by omega, e⟩
    rw [hs, ← or_assoc, ← ih]
    simp only [orbS]
    split
    · rename_i h
      constructor
      · exact .inl
      · rintro (h1 | h1)
        · exact h1
        · rw [h1]; exact h
    · rw [List.mem_append, List.mem_singleton]
theorem orbS_same {g : List (List Int)} {j : Nat} {s0 : List Nat} : ∀ t, (orbS g j s0 t).2.length = 0 → (orbS g j s0 t).1 = s0
  | 0, _ => rfl
  | t + 1, h => by
    simp only [orbS] at h ⊢
    split at h
    · rename_i h1
      rw [if_pos h1]
      exact orbS_same t h
    · simp at h
theorem mem_getD {g : List (List Int)} {P : List Int → Prop} : (∃ i, i < g.length ∧ P (g.getD i [])) ↔ ∃ p ∈ g, P p := by
  constructor
  · rintro ⟨i, hi, h⟩
    have e : g.getD i [] = g[i] := by simp [List.getD, List.getElem?_eq_getElem hi]
    exact ⟨_, List.getElem_mem hi, by rw [← e]; exact h⟩
  · rintro ⟨p, hp, h⟩
    obtain ⟨i, hi, e⟩ := List.mem_iff_getElem.1 hp
    have e2 : g.getD i [] = p := by simp [List.getD, List.getElem?_eq_getElem hi, e]
    exact ⟨i, hi, by rw [e2]; exact h⟩
/-- i is carried to j. -/
def Rel (g : List (List Int)) (i j : Nat) : Prop := ∃ p ∈ g, j = (p.getD i 0).toNat
theorem Grp.at {g : List (List Int)} {n : Nat} (G : Grp g n) {p : List Int} (hp : p ∈ g) {i : Nat} (hi : i < n) : p[i]? = some (p.getD i 0) ∧ 0 ≤ p.getD i 0 ∧ (p.getD i 0).toNat < n := by
  have h : p[i]? = some (p.getD i 0) := by simp [List.getD, List.getElem?_eq_getElem (show i < p.length by rw [G.len p hp]; exact hi)]
  exact ⟨h, G.val hp h⟩
theorem Grp.rel_lt {g : List (List Int)} {n : Nat} (G : Grp g n) {i j : Nat} (hi : i < n) (h : Rel g i j) : j < n := by
  obtain ⟨p, hp, rfl⟩ := h
  exact (G.at hp hi).2.2
theorem Grp.rel_refl {g : List (List Int)} {n : Nat} (G : Grp g n) (h0 : g ≠ []) {i : Nat} (hi : i < n) : Rel g i i :=
  ⟨_, G.one h0, by simp [List.getD, iota_get hi]⟩
theorem Grp.rel_trans {g : List (List Int)} {n : Nat} (G : Grp g n) {i j k : Nat} (hi : i < n) (h1 : Rel g i j) (h2 : Rel g j k) : Rel g i k := by
  obtain ⟨p, hp, rfl⟩ := h1
  obtain ⟨q, hq, rfl⟩ := h2
  obtain ⟨a, a0, a1⟩ := G.at hp hi
  have b := (G.at hq a1).1
  refine ⟨_, G.mul p hp q hq, ?_⟩
  have := comp_get a a0 b
  simp [List.getD, this]
theorem Grp.rel_symm {g : List (List Int)} {n : Nat} (G : Grp g n) {i j : Nat} (hi : i < n) (h : Rel g i j) : Rel g j i := by
  obtain ⟨p, hp, rfl⟩ := h
  obtain ⟨q, hq, e⟩ := G.inv hp
  obtain ⟨a, a0, a1⟩ := G.at hp hi
  have b := (G.at hq a1).1
  have := comp_get a a0 b
  rw [e, iota_get hi] at this
  exact ⟨q, hq, by have := Option.some.inj this; omega⟩
theorem Grp.orbTo_mem {g : List (List Int)} {n : Nat} (G : Grp g n) {y : Nat} : ∀ j, j ≤ n → (y ∈ (orbTo g j).1 ↔ ∃ i, i < j ∧ Rel g i y)
  | 0, _ => by simp [orbTo]
  | j + 1, hj => by
    have ih := fun z => Grp.orbTo_mem G (y := z) j (by omega)
    have hs : (∃ i, i < j + 1 ∧ Rel g i y) ↔ (∃ i, i < j ∧ Rel g i y) ∨ Rel g j y := by
      constructor
      · rintro ⟨i, hi, e⟩
        by_cases h : i = j
        · subst h; exact .inr e
        · exact .inl ⟨i, by omega, e⟩
      · rintro (⟨i, hi, e⟩ | e)
        · exact ⟨i, by omega, e⟩
        · exact ⟨j, by omega, e⟩
    rw [hs, ← ih]
    simp only [orbTo]
    split
    · rename_i h
      constructor
      · exact .inl
      · rintro (h1 | h1)
        · exact h1
        · obtain ⟨i, hi, hr⟩ := (ih j).1 h
          exact (ih y).2 ⟨i, hi, G.rel_trans (by omega) hr h1⟩
    · rw [orbS_mem, mem_getD (P := fun p => y = (p.getD j 0).toNat)]
      rfl
def mins (g : List (List Int)) (n : Nat) : List Nat := (List.range n).filter fun j => g.all fun p => decide ((j : Int) ≤ p.getD j 0)
theorem Grp.mins_iff {g : List (List Int)} {n : Nat} (G : Grp g n) {j : Nat} : j ∈ mins g n ↔ j < n ∧ ∀ i, Rel g j i → j ≤ i := by
  unfold mins
  rw [List.mem_filter, List.mem_range, List.all_eq_true]
  refine and_congr_right fun hj => ?_
  constructor
  · rintro h i ⟨p, hp, rfl⟩
    have := of_decide_eq_true (h p hp)
    omega
  · intro h p hp
    have := h _ ⟨p, hp, rfl⟩
    have := (G.at hp hj).2.1
    exact decide_eq_true (by omega)
theorem Grp.maxs_iff {g : List (List Int)} {n : Nat} (G : Grp g n) {j : Nat} : j ∈ maxs g n ↔ j < n ∧ ∀ i, Rel g j i → i ≤ j := by
  unfold maxs
  rw [List.mem_filter, List.mem_range, List.all_eq_true]
  refine and_congr_right fun hj => ?_
  constructor
  · rintro h i ⟨p, hp, rfl⟩
    have := of_decide_eq_true (h p hp)
    have := (G.at hp hj).2.1
    omega
  · intro h p hp
    have := h _ ⟨p, hp, rfl⟩
    have := (G.at hp hj).2.1
    exact decide_eq_true (by omega)
theorem Grp.orbTo_count {g : List (List Int)} {n : Nat} (G : Grp g n) : ∀ j, j ≤ n → (orbTo g j).2.length = ((List.range j).filter fun i => decide (i ∉ (orbTo g i).1)).length
  | 0, _ => rfl
  | j + 1, hj => by
    have ih := Grp.orbTo_count G j (by omega)
    rw [List.range_succ, List.filter_append, List.length_append, ← ih]
    simp only [orbTo]
    by_cases h : j ∈ (orbTo g j).1
    · rw [if_pos h]; simp [h]
    · rw [if_neg h]; simp [h]
theorem Grp.orb_mins {g : List (List Int)} {n : Nat} (G : Grp g n) : (orbTo g n).2.length = (mins g n).length := by
  rw [G.orbTo_count n (Nat.le_refl _)]
  refine same_len (List.nodup_range.sublist List.filter_sublist) (List.nodup_range.sublist List.filter_sublist) fun j => ?_
  rw [G.mins_iff, List.mem_filter, List.mem_range, decide_eq_true_eq]
  refine and_congr_right fun hj => ?_
  rw [G.orbTo_mem j (by omega)]
  constructor
  · intro h i hi
    refine Nat.le_of_not_lt fun hlt => h ⟨i, hlt, G.rel_symm hj hi⟩
  · rintro h ⟨i, hi, hr⟩
    have := h i (G.rel_symm (by omega) hr)
    omega
open Classical in
theorem rel_le {R : Nat → Nat → Prop} {a b : List Nat} (hn : a.Nodup) (h1 : ∀ x ∈ a, ∃ y ∈ b, R x y) (h2 : ∀ x ∈ a, ∀ z ∈ a, ∀ y ∈ b, R x y → R z y → x = z) : a.length ≤ b.length := by
  refine inj_len (f := fun x => if h : ∃ y ∈ b, R x y then h.choose else 0) hn (fun x hx => ?_) fun x hx z hz e => ?_
  · have := h1 x hx
    simp only [dif_pos this]
    exact this.choose_spec.1
  · have hx' := h1 x hx
    have hz' := h1 z hz
    simp only [dif_pos hx', dif_pos hz'] at e
    exact h2 x hx z hz _ hx'.choose_spec.1 hx'.choose_spec.2 (by rw [e]; exact hz'.choose_spec.2)
theorem Grp.max_of {g : List (List Int)} {n : Nat} (G : Grp g n) (h0 : g ≠ []) : ∀ m i, i < n → n - i ≤ m → ∃ j ∈ maxs g n, Rel g i j
  | 0, i, h1, h2 => by omega
  | m + 1, i, h1, h2 => by
    by_cases h : i ∈ maxs g n
    · exact ⟨i, h, G.rel_refl h0 h1⟩
    · rw [G.maxs_iff] at h
      have : ∃ k, Rel g i k ∧ i < k := by
        refine Classical.byContradiction fun hc => h ⟨h1, fun k hk => Nat.le_of_not_lt fun hlt => hc ⟨k, hk, hlt⟩⟩
      obtain ⟨k, hk, hlt⟩ := this
      obtain ⟨j, hj, hr⟩ := Grp.max_of G h0 m k (G.rel_lt h1 hk) (by have := G.rel_lt h1 hk; omega)
      exact ⟨j, hj, G.rel_trans h1 hk hr⟩
theorem Grp.min_of {g : List (List Int)} {n : Nat} (G : Grp g n) (h0 : g ≠ []) : ∀ i, i < n → ∃ j ∈ mins g n, Rel g i j := by
  intro i
  induction i using Nat.strongRecOn with
  | _ i ih =>
    intro h1
    by_cases h : i ∈ mins g n
    · exact ⟨i, h, G.rel_refl h0 h1⟩
    · rw [G.mins_iff] at h
      have : ∃ k, Rel g i k ∧ k < i := by
        refine Classical.byContradiction fun hc => h ⟨h1, fun k hk => Nat.le_of_not_lt fun hlt => hc ⟨k, hk, hlt⟩⟩
      obtain ⟨k, hk, hlt⟩ := this
      obtain ⟨j, hj, hr⟩ := ih k hlt (by omega)
      exact ⟨j, hj, G.rel_trans h1 hk hr⟩
theorem Grp.mins_maxs {g : List (List Int)} {n : Nat} (G : Grp g n) (h0 : g ≠ []) : (mins g n).length = (maxs g n).length := by
  refine Nat.le_antisymm (rel_le (R := Rel g) (List.nodup_range.sublist List.filter_sublist) (fun x hx => G.max_of h0 (n - x) x (G.mins_iff.1 hx).1 (Nat.le_refl _)) fun x hx z hz y hy h1 h2 => ?_)
    (rel_le (R := Rel g) (List.nodup_range.sublist List.filter_sublist) (fun x hx => G.min_of h0 x (G.maxs_iff.1 hx).1) fun x hx z hz y hy h1 h2 => ?_)
  · obtain ⟨a1, a2⟩ := G.mins_iff.1 hx
    obtain ⟨b1, b2⟩ := G.mins_iff.1 hz
    have := a2 z (G.rel_trans a1 h1 (G.rel_symm b1 h2))
    have := b2 x (G.rel_trans b1 h2 (G.rel_symm a1 h1))
    omega
  · obtain ⟨a1, a2⟩ := G.maxs_iff.1 hx
    obtain ⟨b1, b2⟩ := G.maxs_iff.1 hz
    have := a2 z (G.rel_trans a1 h1 (G.rel_symm b1 h2))
    have := b2 x (G.rel_trans b1 h2 (G.rel_symm a1 h1))
    omega
theorem con_orbits {g : List (List Int)} (h : grpB g = true) {n : Nat} (hr : (row0 g).length = n) (hn : n ≤ 6) (h1 : 1 ≤ n) : conO g [(n : Int) - 1, 1] = ((orbTo g n).2.length : Int) := by
  have G := grpB_grp h
  rw [hr] at G
  rw [con_one h hr hn h1, G.orb_mins, G.mins_maxs (grp_ne h)]
theorem orb_ne {g : List (List Int)} (h : grpB g = true) {n : Nat} (hr : (row0 g).length = n) : ∀ j, j < n → j ∉ (orbTo g j).1 → 0 < (orbS g j (orbTo g j).1 g.length).2.length := fun j hj hs => by
  have G := grpB_grp h
  rw [hr] at G
  refine Nat.pos_of_ne_zero fun hc => hs ?_
  have := orbS_same g.length hc
  rw [← this, orbS_mem, mem_getD (P := fun p => j = (p.getD j 0).toNat)]
  exact .inr (G.rel_refl (grp_ne h) hj)
end Go.Proofs.Ytdibmjijpdliaaa.Perms
/- The group that some permutations make, as the program makes it. -/
set_option linter.unusedVariables false
namespace Go.Proofs.Ytdibmjijpdliaaa
open Go.RowKit

theorem containsIf_c {f : Nat} {lb : Array Value} {P : List Int → Bool} (eg : ∀ args w, (callFunc f args).run Try.prog w = .ok (.enter f args) w) {va : Value} {xss : List (List Int)} {w : World} {Q : Ending → World → Prop} (ha : RowsAt w va xss) (hs : Says f lb w.heap.size w xss P)
    (h0 : ∀ w', Below w.heap.size w w' → (∀ xs ∈ xss, P xs = false) → Q (.returned (.bool false)) w')
    (h1 : ∀ w' xs, Below w.heap.size w w' → xs ∈ xss → P xs = true → Q (.returned (.bool true)) w') :
    Calls Try.prog 97 #[va, .func (.func f) #[] lb] w Q := by
  have H0 := Lib.hid h0; clear h0
  have H1 := Lib.hid h1; clear h1
  have HS := Lib.hid hs; clear hs
  have ha' := Lib.hid ha
  obtain ⟨aa, ca, rfl, la, lca, cca⟩ := ha.form
  clear ha
  go_enter Try.func97, Try.ntmps97
  go_wp2_with fail
  refine findIf_c eg ha'.out (Nat.le_refl _) HS.out ?_ ?_
  · intro w1 b1 hall
    have h3 := Lib.hid (H0.out w1 b1 hall)
    clear hall
    go_wp2_with fail
    exact h3.out
  · intro w1 k xs b1 hx hp hb
    have h3 := Lib.hid (H1.out w1 xs b1 (List.mem_of_getElem? hx) hp)
    have hk : (0 : Int) ≤ k := by omega
    clear hx hp hb
    go_wp2_with fail
    exact h3.out
set_option maxHeartbeats 800000 in
theorem sameSays {b : Nat} {w0 : World} {xss : List (List Int)} {u : Value} {q : List Int} (hbx : BoxAt w0 b 25 u) (hu : IntsAt w0 u q) : Says 98 #[.pointer (some ⟨b, 0, none⟩)] w0.heap.size w0 xss (fun xs => decide (xs = q)) := by
  intro wr v xs Q hB hm ha hQ
  have H := Lib.hid hQ; clear hQ
  have hcell := (hbx.below hB).cell
  have hu' := Lib.hid (hu.below hB)
  have ha' := Lib.hid ha
  obtain ⟨au, cu, rfl, _, _, _⟩ := hu.form
  obtain ⟨av, cv, rfl, _, _, _⟩ := ha.form
  clear ha hm hB hu hbx
  show Calls Try.prog 98 #[.slice av xs.length cv, .pointer (some ⟨b, 0, none⟩)] wr Q
  go_enter Try.func98, Try.ntmps98
  go_wp2_with fail
  refine Equal_c ha'.out hu'.out ?_
  intro w1 d1
  have h3 := Lib.hid (H.out w1 (d1.below _))
  go_wp2_with fail
  exact h3.out
set_option maxHeartbeats 4000000 in
theorem GroupOf_i {vg : Value} {gens : List (List Int)} {n : Int} {w : World} {Q : Ending → World → Prop} (hg : RowsAt w vg gens)
    (hQ : ∀ v w', OwnRows w' w.heap.size w'.heap.size v (Perms.gofW n gens) → Below w.heap.size w w' → Q (.returned (.tuple #[v, .bool (Perms.gofB n gens)])) w') :
    Calls Try.prog 69 #[.int .i64 n, vg] w Q := by
  have H := Lib.hid hQ; clear hQ
  have hg0 := Lib.hid hg
  have bad : ∀ w', Below w.heap.size w w' → Perms.gofO n gens = none → Q (.returned (.tuple #[.slice none 0 0, .bool false])) w' := fun w' hb hf => by
    have := H.out (.slice none 0 0) w' (by unfold Perms.gofW; rw [hf]; exact OwnRows.nil _ _ _) hb
    unfold Perms.gofB at this
    rw [hf] at this; exact this
  have good : ∀ w' v q, Below w.heap.size w w' → Perms.gofO n gens = some q → OwnRows w' w.heap.size w'.heap.size v (Perms.isort q) → Q (.returned (.tuple #[v, .bool true])) w' := fun w' v q hb hf ho => by
    have := H.out v w' (by unfold Perms.gofW; rw [hf]; exact ho) hb
    unfold Perms.gofB at this
    rw [hf] at this; exact this
  have bad' := Lib.hid bad
  have good' := Lib.hid good
  clear bad good
  obtain ⟨aa, ca, rfl, la, lca, cca⟩ := hg.form
  clear hg
  by_cases hn : 1 ≤ n ∧ n ≤ 10
  rotate_left
  · have e : Hid (Perms.gofO n gens = none) := Lib.hid (by unfold Perms.gofO Perms.gokB; rw [decide_eq_false hn]; rfl)
    by_cases h1 : n < 1
    · clear hn
      go_enter Try.func69, Try.ntmps69
      go_wp2_with fail
      exact bad'.out _ (Below.refl _ _) e.out
    · have h2 : 10 < n := by omega
      clear hn
      go_enter Try.func69, Try.ntmps69
      go_wp2_with fail
      exact bad'.out _ (Below.refl _ _) e.out
  obtain ⟨hn1, hn2⟩ := hn
  obtain ⟨n0, rfl⟩ : ∃ n0 : Nat, n = n0 := ⟨n.toNat, by omega⟩
  have hn3 : ¬ ((n0 : Int) < 1) := by omega
  have hn4 : ¬ ((10 : Int) < n0) := by omega
  go_enter Try.func69, Try.ntmps69
  go_wp2_with fail
  have hgl63 := Lib.hid la
  go_loopg [21] gens.length (fun g i wr => Below w.heap.size w wr ∧ ∃ j : Nat, i = .int .i64 j ∧ Hid ((gens.take j).all (fun p => Perms.permB p && decide ((p.length : Int) = n0)) = true) ∧ j + g ≤ gens.length ∧ gens.length ≤ j + g)
  case atStart => exact ⟨Below.refl _ _, 0, rfl, Lib.hid rfl, by omega, by omega⟩
  case round =>
    obtain ⟨hb, j, rfl, hok, hk1, hk2⟩ := hrel
    by_cases hj : j < gens.length
    · obtain ⟨b, off, u, p, rfl, hx, hcw, hi⟩ := hg0.out.cell hj
      obtain ⟨au, cu, rfl, lp, _, _⟩ := hi.form
      have i1 : (j : Int) < gens.length := by omega
      have hc := below_cells hb _ _ hcw
      have hi' := Lib.hid (hi.below hb)
      have hst : Hid ((gens.take (j + 1)).all (fun p => Perms.permB p && decide ((p.length : Int) = n0)) = (Perms.permB p && decide ((p.length : Int) = n0))) := Lib.hid (by
        rw [List.take_add_one, hx.out, List.all_append, hok.out]; simp)
      have hbadp : Hid ((Perms.permB p && decide ((p.length : Int) = n0)) = false → Perms.gofO n0 gens = none) := Lib.hid (fun h => by
        unfold Perms.gofO
        rw [if_neg]
        intro h2
        have := (Perms.gok_parts h2).2.2 p (List.mem_of_getElem? hx.out)
        rw [this.1, decide_eq_true this.2] at h
        cases h)
      clear hi
      go_wp2_with fail
      refine PermOk_i hi'.out ?_
      intro w2 b2
      have hbb : Below w.heap.size w w2 := hb.trans (b2.mono hb.size)
      cases hpb : Perms.permB p with
      | false =>
        have hf := Lib.hid (hbadp.out (by rw [hpb]; rfl))
        clear hpb
        go_wp2_with fail
        exact bad'.out _ hbb hf.out
      | true =>
        by_cases hln : (p.length : Int) = n0
        · have hs2 : Hid ((gens.take (j + 1)).all (fun p => Perms.permB p && decide ((p.length : Int) = n0)) = true) := Lib.hid (by rw [hst.out, hpb, decide_eq_true hln]; rfl)
          have hne : ((p.length : Int) != n0) = false := by rw [hln]; simp
          clear hpb hln
          go_wp2_with fail
          go_roundg (gk - 1)
          case measure => omega
          case rel => exact ⟨hbb, j + 1, by go_num, hs2, by omega, by omega⟩
        · have hf := Lib.hid (hbadp.out (by rw [hpb, decide_eq_false hln]; rfl))
          have hne : ((p.length : Int) != n0) = true := by simpa using hln
          clear hpb hln
          go_wp2_with fail
          exact bad'.out _ hbb hf.out
    · have hgok : Perms.gokB n0 gens = true := by
        have h := hok.out
        rw [List.take_of_length_le (by omega)] at h
        unfold Perms.gokB
        rw [h, decide_eq_true (by omega)]; rfl
      have hgo : Hid (Perms.gofO n0 gens = Perms.bfs gens 121 0 [Perms.iota n0]) := Lib.hid (by unfold Perms.gofO; rw [if_pos hgok, Int.toNat_natCast])
      have hgr := Lib.hid (Perms.gok_inR hgok)
      have hg1 := Lib.hid (hg0.out.below hb)
      clear hgok hok
      go_wp2_with fail
      refine IdentityPerm_i (by omega) (by omega) ?_
      intro v1 w1 o1 b1
      obtain ⟨a1, c1, rfl, _, _, _⟩ := Own.form o1
      have bw1 := hb.trans (b1.mono hb.size)
      have q1 := own_rows_one (OwnInts.mono o1 hb.size) bw1.size
      have ba1 := below_alloc w1 (.cells #[.slice a1 (ints (Perms.iota n0)).length c1] 25)
      have bwa1 := bw1.trans (ba1.mono bw1.size)
      obtain ⟨us0, g0o, _, g0r⟩ := (q1.tight).parts
      have g0r' := Lib.hid g0r
      have hgw2 := Lib.hid (hg0.out.below bwa1)
      have hinv := Lib.hid (Perms.GofInv.start (n := n0))
      clear q1 g0r
      go_wp2_with fail
      go_loopg [8, 9] 120 (fun gg u8 u9 wr => ∃ (a : Nat) (q : List (List Int)) (us : List Value), u9 = .int .i64 a ∧ Own wr w.heap.size 25 u8 us ∧ Hid (Rows wr w.heap.size wr.heap.size us q) ∧ Hid (Perms.GofInv n0 q) ∧ Hid (Perms.gofO n0 gens = Perms.bfs gens (gg + 1) a q) ∧ Below w.heap.size w wr ∧ Hid (RowsAt wr (.slice aa gens.length ca) gens) ∧ a ≤ q.length ∧ 0 < q.length ∧ a + gg = 120)
      case atStart => exact ⟨0, [Perms.iota n0], us0, rfl, g0o, g0r', hinv, hgo, bwa1, hgw2, by simp, by simp, rfl⟩
      case round =>
        obtain ⟨a, q, us, rfl, og, rg, inv, hbf, bwr, hgr3, ha1, hpos, ha2⟩ := hrel
        obtain ⟨gk1, hgk1⟩ : ∃ g, g = gk := ⟨_, rfl⟩
        obtain ⟨a8, c8, rfl, _, _, _⟩ := Own.form og
        have hql := inv.out.le
        have husl : us.length ≤ q.length ∧ q.length ≤ us.length := by have := rg.out.1; omega
        by_cases ha : a < q.length
        · have haI : (a : Int) < us.length := by omega
          obtain ⟨p, hp0⟩ : ∃ p, q[a]? = some p := ⟨_, List.getElem?_eq_getElem ha⟩
          have hp := Lib.hid hp0
          have hgk : gk = gk1 - 1 + 1 := by omega
          have hrow : Hid (Perms.gofO n0 gens = (Perms.rowTo gens p q gens.length).bind (Perms.bfs gens (gk1 - 1 + 1) (a + 1))) := Lib.hid (by
            rw [hbf.out, Perms.bfs_row hp0, ← hgk])
          clear hp0
          go_wp2_with fail
          have hst0 : Hid (Perms.rowTo gens p q 0 = some q) := Lib.hid rfl
          go_loopg [8, 46] gens.length (fun gg u8 u46 wr2 => ∃ (t : Nat) (cur : List (List Int)) (us : List Value), u46 = .int .i64 t ∧ Own wr2 w.heap.size 25 u8 us ∧ Hid (Rows wr2 w.heap.size wr2.heap.size us cur) ∧ Hid (Perms.GofInv n0 cur) ∧ Hid (Perms.rowTo gens p q t = some cur) ∧ Hid (cur[a]? = some p) ∧ Below w.heap.size w wr2 ∧ Hid (RowsAt wr2 (.slice aa gens.length ca) gens) ∧ t + gg ≤ gens.length ∧ gens.length ≤ t + gg)
          case atStart => exact ⟨0, q, us, rfl, og, rg, inv, hst0, hp, bwr, hgr3, by omega, by omega⟩
          case round =>
            obtain ⟨t, cur, us, rfl, og, rg, inv, hrt, hpa, bwr, hgr3, ht1, ht2⟩ := hrel
            obtain ⟨a8, c8, rfl, _, _, _⟩ := Own.form og
            have hql := inv.out.le
            have husl : us.length ≤ cur.length ∧ cur.length ≤ us.length := by have := rg.out.1; omega
            have hac : a < cur.length := (List.getElem?_eq_some_iff.1 hpa.out).1
            by_cases ht : t < gens.length
            · have htI : (t : Int) < gens.length := by omega
              have haI2 : (a : Int) < us.length := by omega
              obtain ⟨b7, f7, ug, s, rfl, hs, hcs, hus⟩ := hgr3.out.cell ht
              obtain ⟨ag, cg, rfl, _, _, _⟩ := hus.form
              have hus' := Lib.hid hus
              obtain ⟨up, hup, hoip, _⟩ := rg.out.2.1 a p hpa.out
              obtain ⟨ap, cp, rfl, _, _, _⟩ := Own.form hoip
              obtain ⟨g9, rfl, _, _⟩ := Own.head og (by omega)
              have hcp := Own.cell og hup
              have hip := Lib.hid (OwnInts.at hoip)
              have hpR := inv.out.rg p (List.mem_of_getElem? hpa.out)
              have hsR := hgr.out s (List.mem_of_getElem? hs.out)
              have hcR := Lib.hid (Perms.inR_comp hpR hsR)
              have hpl : p.length ≤ 1048576 := by rw [hpR.1]; omega
              have hpr : Hid (∀ x ∈ p, 0 ≤ x ∧ x < s.length) := Lib.hid (by rw [hsR.1]; exact hpR.2)
              have hstep : Hid (Perms.rowTo gens p q (t + 1) = Perms.stepG (some cur) (Perms.comp p s)) := Lib.hid (by rw [Perms.rowTo_step hs.out, hrt.out])
              clear hus hup hpR hsR
              go_wp2_with fail
              refine compose_i hip.out hus'.out hpl hpr.out ?_
              intro v3 w3 o3 b3
              obtain ⟨a3, c3, rfl, _, _, _⟩ := Own.form o3
              obtain ⟨c, hc⟩ : ∃ c, c = Perms.comp p s := ⟨_, rfl⟩
              rw [← hc] at o3 hcR hstep ⊢
              have bw3 := bwr.trans (b3.mono bwr.size)
              have ba3 := below_alloc w3 (.cells #[.slice a3 (ints c).length c3] 25)
              have hbx : BoxAt (w3.alloc (.cells #[.slice a3 (ints c).length c3] 25)) w3.heap.size 25 (.slice a3 (ints c).length c3) := heap_alloc_new _ _
              have b34 : Below wr.heap.size wr (w3.alloc (.cells #[.slice a3 (ints c).length c3] 25)) := b3.trans (ba3.mono b3.size)
              have bw4 := bwr.trans (b34.mono bwr.size)
              have og4 := Own.below og b34
              have rg4 := Lib.hid (rg.out.below b34)
              have o34 := Lib.hid (OwnInts.below o3 ba3)
              have hrat := Lib.hid ((rg4.out.vals).at og4)
              have hS := Lib.hid (sameSays (xss := cur) hbx (OwnInts.at o34.out))
              have hbx' := Lib.hid hbx
              clear hc hbx o3
              go_wp2_with fail
              refine containsIf_c (fun args w => enters_of Try.func98 (by kernel_rfl) rfl args w) hrat.out hS.out ?_ ?_
              · intro w5 b5 hall
                have hm : c ∉ cur := fun h => by have := hall c h; simp at this
                have hcell5 := (hbx'.out.below b5).cell
                have bw5 := bw4.trans (b5.mono bw4.size)
                by_cases h120 : cur.length = 120
                · have hst2 : Hid (Perms.rowTo gens p q (t + 1) = none) := Lib.hid (by rw [hstep.out]; simp [Perms.stepG, hm, h120])
                  have hno : Hid (Perms.gofO n0 gens = none) := Lib.hid (by rw [hrow.out, Perms.rowTo_none hst2.out]; rfl)
                  have hus120 : (us.length : Int) = 120 := by omega
                  clear hm h120 hall
                  go_wp2_with fail
                  exact bad'.out _ bw5 hno.out
                · have hst2 : Hid (Perms.rowTo gens p q (t + 1) = some (cur ++ [c])) := Lib.hid (by rw [hstep.out]; simp [Perms.stepG, hm, h120])
                  have inv2 := Lib.hid (inv.out.add hcR.out hm h120)
                  have hus120 : ((us.length : Int) == 120) = false := by
                    rw [beq_eq_false_iff_ne]; omega
                  have hpa2 : Hid ((cur ++ [c])[a]? = some p) := Lib.hid (by rw [List.getElem?_append_left hac]; exact hpa.out)
                  have og5 := Own.below og4 b5
                  have rg5 := Lib.hid (rg4.out.below b5)
                  have o35 := Lib.hid (OwnInts.below o34.out b5)
                  have ba5 := below_alloc w5 (.cells #[.slice a3 (ints c).length c3] 25)
                  have oq6 := Own.below og5 ba5
                  have hr6 := row_one w5 (.slice a3 (ints c).length c3) 25
                  have hone6 : Hid (∀ y ∈ [Value.slice a3 (ints c).length c3], y.oneCell' = true) := Lib.hid (fun y hy => by rw [List.mem_singleton] at hy; rw [hy]; rfl)
                  have bw6 := bw5.trans (ba5.mono bw5.size)
                  clear hm hall
                  go_wp2_with (at_builtin; refine app_outer rfl (.tmp 62) (.tmp 64) rfl rfl oq6 rfl hr6 hone6.out (by show us.length + 1 ≤ 1099511627776; omega) bw6.size ?_; intro v7 w7 o7 g7)
                  have bw7 := bw6.grown g7 bw6.size (fun b hb => (Own.lt oq6 hb).1)
                  have hrp := (((rg5.out.below ba5).push (OwnInts.mono (OwnInts.below o35.out ba5) bwr.size) (fun b hb => (Own.lt o35.out hb).1)).outer oq6 g7).tight
                  have rg7 := Lib.hid hrp
                  have hgr7 := Lib.hid (hg0.out.below bw7)
                  go_roundg (gk - 1)
                  case measure => omega
                  case rel => exact ⟨t + 1, cur ++ [c], us ++ [.slice a3 (ints c).length c3], by go_num, o7, rg7, inv2, hst2, hpa2, bw7, hgr7, by omega, by omega⟩
              · intro w5 xs b5 hxs hxp
                have hm : c ∈ cur := by have e := of_decide_eq_true hxp; rw [← e]; exact hxs
                have hst2 : Hid (Perms.rowTo gens p q (t + 1) = some cur) := Lib.hid (by rw [hstep.out]; simp [Perms.stepG, hm])
                have bw5 := bw4.trans (b5.mono bw4.size)
                have og5 := Own.below og4 b5
                have rg5 := Lib.hid ((rg4.out.below b5).tight)
                have hgr5 := Lib.hid (hg0.out.below bw5)
                clear hm hxs hxp
                go_wp2_with fail
                go_roundg (gk - 1)
                case measure => omega
                case rel => exact ⟨t + 1, cur, us, by go_num, og5, rg5, inv, hst2, hpa, bw5, hgr5, by omega, by omega⟩
            · have hte : t = gens.length := by omega
              have hbf2 : Hid (Perms.gofO n0 gens = Perms.bfs gens (gk1 - 1 + 1) (a + 1) cur) := Lib.hid (by rw [hrow.out, ← hte, hrt.out]; rfl)
              go_wp2_with fail
              go_roundg (gk1 - 1)
              case measure => omega
              case rel => exact ⟨a + 1, cur, us, by go_num, og, rg, inv, hbf2, bwr, hgr3, by omega, by omega, by omega⟩
        · obtain rfl : a = q.length := by omega
          have hfin : Hid (Perms.gofO n0 gens = some q) := Lib.hid (by rw [hbf.out, Perms.bfs_end (Nat.le_refl _)])
          have how := Lib.hid (rg.out.whole og (Own.inBlk og))
          have bws := bwr.size
          go_wp2_with fail
          refine sortRows_c how.out bws hpos (by omega) ?_
          intro w5 yss hp5 hs5 o5 b5
          obtain rfl : yss = Perms.isort q := sorted_unique (hp5.trans (Perms.isort_perm _).symm) hs5 (Perms.isort_sorted _)
          have h3 := Lib.hid (good'.out w5 _ q (bwr.trans b5) hfin.out o5)
          go_wp2_with fail
          exact h3.out
end Go.Proofs.Ytdibmjijpdliaaa
/- The cyclic and the dihedral groups, as the program makes them. -/
set_option linter.unusedVariables false
namespace Go.Proofs.Ytdibmjijpdliaaa
open Go.RowKit

def Perms.turnL (n : Nat) : List Int := (List.range n).map fun (k : Nat) => (((k + 1) % n : Nat) : Int)
theorem Perms.turnL_len (n : Nat) : (Perms.turnL n).length = n := by simp [Perms.turnL]
theorem Perms.turnL_get {n j : Nat} (hj : j < n) : (Perms.turnL n)[j]? = some (((j + 1) % n : Nat) : Int) := by simp [Perms.turnL, hj]
theorem over_step {α : Type} {xs ys : List α} {j : Nat} {x : α} (hx : xs[j]? = some x) (hy : j < ys.length) : (xs.take j ++ ys.drop j).set j x = xs.take (j + 1) ++ ys.drop (j + 1) := by
  have hj := (List.getElem?_eq_some_iff.1 hx).1
  have e : ys.drop j = ys[j] :: ys.drop (j + 1) := List.drop_eq_getElem_cons hy
  have hl : (xs.take j).length = j := by rw [List.length_take]; omega
  rw [List.set_append_right _ _ (by omega), hl, Nat.sub_self]
  rw [e, List.set_cons_zero, List.take_add_one, hx, List.append_assoc]
  rfl
theorem over_get {α : Type} {xs ys : List α} {j : Nat} (hx : j < xs.length) : (xs.take j ++ ys.drop j)[j]? = ys[j]? := by
  have hl : (xs.take j).length = j := by rw [List.length_take]; omega
  rw [List.getElem?_append_right (by omega), hl, Nat.sub_self, List.getElem?_drop, Nat.add_zero]
set_option maxHeartbeats 800000 in
theorem turn_i {n : Nat} {w : World} {Q : Ending → World → Prop} (hn1 : 1 ≤ n) (hn : n ≤ 10)
    (hQ : ∀ v w', OwnInts w' w.heap.size v (Perms.turnL n) → Below w.heap.size w w' → Q (.returned v) w') :
    Calls Try.prog 70 #[.int .i64 n] w Q := by
  have H := Lib.hid hQ; clear hQ
  go_enter Try.func70, Try.ntmps70
  go_wp2_with fail
  refine IdentityPerm_i hn1 hn ?_
  intro v1 w1 o1 b1
  obtain ⟨a1, c1, rfl, _, _, _⟩ := Own.form o1
  obtain ⟨g, rfl, hgB, hgl⟩ := Own.head o1 (by rw [ints_len, Perms.iota_len]; omega)
  have e1 : (ints (Perms.iota n)).length = n := by rw [ints_len, Perms.iota_len]
  rw [e1] at o1 ⊢
  have o1' : OwnInts w1 w.heap.size (.slice (some ⟨g, 0, none⟩) n c1) ((Perms.turnL n).take 0 ++ (Perms.iota n).drop 0) := by simpa using o1
  clear e1 o1
  go_wp2_with fail
  go_loopg [9] n (fun gg u9 wr => ∃ (j : Nat), u9 = .int .i64 j ∧ OwnInts wr w.heap.size (.slice (some ⟨g, 0, none⟩) n c1) ((Perms.turnL n).take j ++ (Perms.iota n).drop j) ∧ Below w.heap.size w wr ∧ j + gg ≤ n ∧ n ≤ j + gg)
  case atStart => exact ⟨0, rfl, o1', b1, by omega, by omega⟩
  case round =>
    obtain ⟨j, rfl, ho, hbw, hm1, hm2⟩ := hrel
    by_cases hj : j < n
    · have hjI : (j : Int) < n := by omega
      have hst := over_step (ys := Perms.iota n) (Perms.turnL_get hj) (by rw [Perms.iota_len]; exact hj)
      have hge := over_get (xs := Perms.turnL n) (ys := Perms.iota n) (j := j) (by rw [Perms.turnL_len]; exact hj)
      obtain ⟨x, hx, hcx⟩ := OwnInts.cell ho (k := j) (by rw [List.length_append, List.length_take, List.length_drop, Perms.turnL_len, Perms.iota_len]; omega)
      have hfr := Own.frozen ho j
      have hmod : ((j : Int) + 1) % (n : Int) = (((j + 1) % n : Nat) : Int) := by simp
      have ho2 := OwnInts.set ho j (((j : Int) + 1) % (n : Int))
      rw [hmod, hst, ← hmod] at ho2
      have ho2' := Lib.hid ho2
      have hg2 := grown_set wr g j (.int .i64 (((j : Int) + 1) % (n : Int)))
      have hb2 := hbw.grown hg2 hbw.size (fun b hb => by cases hb; exact hgB)
      have hn0 : ((n : Int) == 0) = false := by rw [beq_eq_false_iff_ne]; omega
      have hnm : ((n : Int) == -1) = false := by rw [beq_eq_false_iff_ne]; omega
      have hm0 : 0 ≤ ((j : Int) + 1) % (n : Int) := Int.emod_nonneg _ (by omega)
      have hm9 : ((j : Int) + 1) % (n : Int) < n := Int.emod_lt_of_pos _ (by omega)
      clear hst ho2 hge hmod
      go_wp2_with fail
      go_roundg (gk - 1)
      case measure => omega
      case rel => exact ⟨j + 1, by go_num, ho2'.out, hb2, by omega, by omega⟩
    · have hje : j = n := by omega
      have h2 : OwnInts wr w.heap.size (.slice (some ⟨g, 0, none⟩) n c1) (Perms.turnL n) := by
        rw [List.take_of_length_le (by rw [Perms.turnL_len]; omega), List.drop_of_length_le (by rw [Perms.iota_len]; omega), List.append_nil] at ho
        exact ho
      have h3 := Lib.hid (H.out _ _ h2 hbw)
      clear h2
      go_wp2_with fail
      exact h3.out
theorem CyclicGroup_i {n : Nat} {w : World} {Q : Ending → World → Prop} (hn1 : 1 ≤ n) (hn : n ≤ 10)
    (hQ : ∀ v w', OwnRows w' w.heap.size w'.heap.size v (Perms.gofW n [Perms.turnL n]) → Below w.heap.size w w' → Q (.returned (.tuple #[v, .bool (Perms.gofB n [Perms.turnL n])])) w') :
    Calls Try.prog 30 #[.int .i64 n] w Q := by
  have H := Lib.hid hQ; clear hQ
  go_enter Try.func30, Try.ntmps30
  go_wp2_with fail
  refine turn_i hn1 hn ?_
  intro v1 w1 o1 b1
  have hr := Lib.hid (own_rows_one o1 b1.size).at
  have ba := b1.alloc b1.size (.cells #[v1] 25)
  obtain ⟨a1, c1, rfl, _, _, _⟩ := Own.form o1
  clear o1
  go_wp2_with fail
  refine GroupOf_i hr.out ?_
  intro v2 w2 o2 b2
  have h3 := Lib.hid (H.out v2 w2 (OwnRows.mono o2 ba.size (Nat.le_refl _)) (ba.trans (b2.mono ba.size)))
  obtain ⟨a2, c2, rfl, _, _, _⟩ := o2.form
  go_wp2_with fail
  exact h3.out
/-- A literal of two rows that lie there. -/
theorem rows_two {w : World} {u v : Value} {xs ys : List Int} (hu : IntsAt w u xs) (hv : IntsAt w v ys) : RowsAt (w.alloc (.cells #[u, v] 25)) (.slice (some ⟨w.heap.size, 0, none⟩) 2 2) [xs, ys] := by
  have h4 := World.ownsRow_lit (size := 1) w (e := 25) #[u, v] 2 (Nat.le_refl _) (by unfold maxLen; omega) (by simp)
  have h5 : Own (w.alloc (.cells #[u, v] 25)) w.heap.size 25 (.slice (some ⟨w.heap.size, 0, none⟩) 2 2) [u, v] := h4
  refine ⟨_, Own.row h5, rfl, fun k zs hk => ?_⟩
  match k, hk with
  | 0, hk => cases hk; exact ⟨_, rfl, hu.below (below_alloc w _)⟩
  | 1, hk => cases hk; exact ⟨_, rfl, hv.below (below_alloc w _)⟩
  | k + 2, hk => simp at hk
theorem DihedralGroup_i {n : Nat} {w : World} {Q : Ending → World → Prop} (hn1 : 1 ≤ n) (hn : n ≤ 10)
    (hQ : ∀ v w', OwnRows w' w.heap.size w'.heap.size v (Perms.gofW n [Perms.turnL n, (Perms.iota n).reverse]) → Below w.heap.size w w' → Q (.returned (.tuple #[v, .bool (Perms.gofB n [Perms.turnL n, (Perms.iota n).reverse])])) w') :
    Calls Try.prog 38 #[.int .i64 n] w Q := by
  have H := Lib.hid hQ; clear hQ
  go_enter Try.func38, Try.ntmps38
  go_wp2_with fail
  refine IdentityPerm_i hn1 hn ?_
  intro v1 w1 o1 b1
  obtain ⟨a1, c1, rfl, _, _, _⟩ := Own.form o1
  have o1' := Lib.hid o1
  clear o1
  go_wp2_with fail
  refine Reverse_c o1'.out ?_
  intro w2 o2 g2
  have b2 := b1.grown g2 b1.size (fun b hb => (Own.lt o1'.out hb).1)
  have o2' := Lib.hid o2
  clear o2
  go_wp2_with fail
  refine turn_i hn1 hn ?_
  intro v3 w3 o3 b3
  have b23 := b2.trans (b3.mono b2.size)
  have hr := Lib.hid (rows_two (OwnInts.at o3) (OwnInts.at (OwnInts.below o2'.out b3)))
  have ba := b23.alloc b23.size (.cells #[v3, .slice a1 (ints (Perms.iota n)).length c1] 25)
  obtain ⟨a3, c3, rfl, _, _, _⟩ := Own.form o3
  clear o3
  go_wp2_with fail
  refine GroupOf_i hr.out ?_
  intro v4 w4 o4 b4
  have h3 := Lib.hid (H.out v4 w4 (OwnRows.mono o4 ba.size (Nat.le_refl _)) (ba.trans (b4.mono ba.size)))
  obtain ⟨a4, c4, rfl, _, _, _⟩ := o4.form
  go_wp2_with fail
  exact h3.out
end Go.Proofs.Ytdibmjijpdliaaa
/- The reference's maker of groups. -/
set_option linter.unusedVariables false
namespace Go.Proofs.Ytdibmjijpdliaaa
open Go.RowKit

def Perms.mirL (n : Nat) : List Int := (List.range n).map fun (k : Nat) => (n : Int) - 1 - k
def Perms.swpL (n : Nat) : List Int := if n ≤ 1 then Perms.iota n else ((Perms.iota n).set 0 1).set 1 0
theorem Perms.mk_facts : ∀ n ∈ List.range 7, 1 ≤ n → Perms.gofB n [Perms.turnL n] = true ∧ Perms.gofB n [Perms.turnL n, Perms.mirL n] = true := by decide +kernel
theorem Perms.mk_facts2 : ∀ n ∈ List.range 5, 1 ≤ n → Perms.gofB n [Perms.turnL n, Perms.swpL n] = true := by decide +kernel
theorem Perms.swap_perm {p : List Int} (h : Perms.permB p = true) {i j : Nat} {x y : Int} (hx : p[i]? = some x) (hy : p[j]? = some y) : Perms.permB ((p.set i y).set j x) = true := by
  obtain ⟨hi, rfl⟩ := List.getElem?_eq_some_iff.1 hx
  obtain ⟨hj, rfl⟩ := List.getElem?_eq_some_iff.1 hy
  have hp := List.set_set_perm hi hj
  have hl := Perms.permB_len h
  have hle := hp.length_eq
  exact Perms.permB_of (by omega) (by omega) (hp.nodup_iff.2 (Perms.permB_nodup h)) fun z hz => by
    rw [hle]
    exact Perms.permB_range h z (hp.mem_iff.1 hz)
theorem Perms.iota_perm {n : Nat} (h1 : 1 ≤ n) (hn : n ≤ 10) : Perms.permB (Perms.iota n) = true := by
  refine Perms.permB_of (by rw [Perms.iota_len]; omega) (by rw [Perms.iota_len]; omega) ?_ (by rw [Perms.iota_len]; exact (Perms.inR_iota n).2)
  unfold Perms.iota
  exact Perms.nodup_map_on List.nodup_range fun x _ y _ e => by omega
theorem grown_far {a b c : World} {row : Option Nat} {g : Nat} (h : a.grownBy b row) (k : b.grownBy c (some g)) (hg : a.heap.size ≤ g) : a.grownBy c row :=
  ⟨k.os.trans h.os, k.tape.trans h.tape, k.output.trans h.output, Nat.le_trans h.size k.size, fun i hi hr => (k.block i (Nat.lt_of_lt_of_le hi h.size) (fun e => by have := Option.some.inj e; omega)).trans (h.block i hi hr)⟩
theorem grown_below {a b c : World} {row : Option Nat} (h : a.grownBy b row) (k : Below b.heap.size b c) : a.grownBy c row :=
  ⟨k.os.trans h.os, k.tape.trans h.tape, k.output.trans h.output, Nat.le_trans h.size k.size, fun i hi hr => (k.block i (Nat.lt_of_lt_of_le hi h.size)).trans (h.block i hi hr)⟩
set_option maxHeartbeats 1600000 in
theorem l02Draw_c {c n : Nat} {w : World} {Q : Ending → World → Prop} (hc : Cur w c) (hn1 : 1 ≤ n) (hn : n ≤ 10)
    (hQ : ∀ v p w', Perms.permB p = true → p.length = n → OwnInts w' w.heap.size v p → Cur w' c → w.grownBy w' (some c) → Q (.returned v) w') :
    Calls Try.prog 89 #[.pointer (some ⟨c, 0, none⟩), .int .i64 n] w Q := by
  have H := Lib.hid hQ; clear hQ
  have hcl := hc.lt
  go_enter Try.func89, Try.ntmps89
  go_wp2_with fail
  refine IdentityPerm_s hn1 hn ?_
  intro v1 w1 o1 b1
  obtain ⟨a1, c1, rfl, _, _, _⟩ := Own.form o1
  obtain ⟨g, rfl, hgB, hgl⟩ := Own.head o1 (by rw [ints_len, Perms.iota_len]; omega)
  have e1 : (ints (Perms.iota n)).length = n := by rw [ints_len, Perms.iota_len]
  rw [e1] at o1 ⊢
  have o1' := Lib.hid o1
  have hc1 := hc.below b1
  have bc1 : w.grownBy w1 (some c) := grown_below (World.grownBy.refl _ _) b1
  have hip := Perms.iota_perm hn1 hn
  have hil := Perms.iota_len n
  clear e1 o1
  go_wp2_with fail
  go_loopg [6] n (fun gg u6 wr => ∃ (j : Nat) (xs : List Int), u6 = .int .i64 j ∧ Hid (Perms.permB xs = true) ∧ xs.length = n ∧ OwnInts wr w.heap.size (.slice (some ⟨g, 0, none⟩) n c1) xs ∧ Cur wr c ∧ w.grownBy wr (some c) ∧ w.heap.size ≤ wr.heap.size ∧ j + 1 ≤ n ∧ j + 1 ≤ gg)
  case atStart => exact ⟨n - 1, _, by go_num, Lib.hid hip, hil, o1'.out, hc1, bc1, b1.size, by omega, by omega⟩
  case round =>
    obtain ⟨j, xs, rfl, hpx, hxl, ho, hcr, hbw, hsz, hj1, hj2⟩ := hrel
    by_cases hj : 0 < j
    · have hjI : (0 : Int) < (j : Int) := by omega
      go_wp2_with fail
      refine l01Below_c hcr (by omega) (by omega) ?_
      intro x w2 hx0 hx1 hc2 hg2 hz2
      obtain ⟨i, hi⟩ : ∃ i : Nat, x = (i : Int) := ⟨x.toNat, by omega⟩
      subst hi
      have hij : i ≤ j := by omega
      have hiI : (i : Int) < n := by omega
      have hjn : (j : Int) < n := by omega
      have ho2 : OwnInts w2 w.heap.size (.slice (some ⟨g, 0, none⟩) n c1) xs := Own.grown ho hg2 (.inr fun e => by
        have e2 : g = c := by simpa [Value.ownBlock] using e
        omega)
      have hbw2 : w.grownBy w2 (some c) := grown_trans hbw hg2
      obtain ⟨x, hx, hcx⟩ := OwnInts.cell ho2 (k := i) (by omega)
      obtain ⟨y, hy, hcy⟩ := OwnInts.cell ho2 (k := j) (by omega)
      have hfi := Own.frozen ho2 i
      have hfj := Own.frozen (OwnInts.set ho2 i y) j
      obtain ⟨z, hz, hcz⟩ := OwnInts.cell (OwnInts.set ho2 i y) (k := j) (by rw [List.length_set]; omega)
      have hsw := Lib.hid (Perms.swap_perm hpx.out hx.out hy.out)
      have ho4 := Lib.hid (OwnInts.set (OwnInts.set ho2 i y) j x)
      have hg4 := grown_trans (grown_set w2 g i (.int .i64 y)) (grown_set _ g j (.int .i64 x))
      have hsz4 := hg4.size
      have hc4 : Cur _ c := hc2.grown hg4 (fun b hb => by cases hb; omega)
      have hbw4 : w.grownBy _ (some c) := grown_far hbw2 hg4 hgB
      clear hx0 hx1
      go_wp2_with fail
      go_roundg (gk - 1)
      case measure => omega
      case rel => exact ⟨j - 1, (xs.set i y).set j x, by go_num, hsw, by rw [List.length_set, List.length_set]; exact hxl, ho4.out, hc4, hbw4, by omega, by omega, by omega⟩
    · have h3 := Lib.hid (H.out _ xs wr hpx.out hxl ho hcr hbw)
      have hj0 : j = 0 := by omega
      subst hj0
      go_wp2_with fail
      exact h3.out
set_option maxHeartbeats 800000 in
theorem l03Turn_s {n : Nat} {w : World} {Q : Ending → World → Prop} (hn1 : 1 ≤ n) (hn : n ≤ 10)
    (hQ : ∀ v w', OwnInts w' w.heap.size v (Perms.turnL n) → Below w.heap.size w w' → Q (.returned v) w') :
    Calls Try.prog 104 #[.int .i64 n] w Q := by
  have H := Lib.hid hQ; clear hQ
  go_enter Try.func104, Try.ntmps104
  go_wp2_with fail
  have o0 := own_empty w
  have b0 := below_alloc w (.cells #[] 3)
  go_loopg [3, 4] n (fun gg u3 u4 wr => ∃ (j : Nat), u4 = .int .i64 j ∧ OwnInts wr w.heap.size u3 ((Perms.turnL n).take j) ∧ Below w.heap.size w wr ∧ j + gg ≤ n ∧ n ≤ j + gg)
  case atStart => exact ⟨0, rfl, by simpa using o0, b0, by omega, by omega⟩
  case round =>
    obtain ⟨j, rfl, ho, hbw, hm1, hm2⟩ := hrel
    obtain ⟨a3, c3, rfl, _, _, _⟩ := Own.form ho
    have hil : ((Perms.turnL n).take j).length ≤ 10 := by rw [List.length_take, Perms.turnL_len]; omega
    by_cases hj : j < n
    · have hjI : (j : Int) < n := by omega
      have hst : (Perms.turnL n).take (j + 1) = (Perms.turnL n).take j ++ [((j : Int) + 1) % n] := by
        rw [List.take_add_one, Perms.turnL_get hj]; simp
      have hst' := Lib.hid hst
      have hn0 : ((n : Int) == 0) = false := by rw [beq_eq_false_iff_ne]; omega
      have hnm : ((n : Int) == -1) = false := by rw [beq_eq_false_iff_ne]; omega
      have hm0 : 0 ≤ ((j : Int) + 1) % (n : Int) := Int.emod_nonneg _ (by omega)
      have hm9 : ((j : Int) + 1) % (n : Int) < n := Int.emod_lt_of_pos _ (by omega)
      clear hst
      go_wp2_with (at_builtin; refine app_int rfl (.tmp 11) (.tmp 16) rfl rfl (OwnInts.below ho (below_alloc wr _)) rfl (cell_new _ _ _) (by omega) (by have := hbw.size; simp; omega) ?_; intro v2 w2 o2 g2)
      rw [← hst'.out] at o2
      have hs2 := g2.size
      have hbs := hbw.size
      have hb2 : Below w.heap.size w w2 := (hbw.alloc hbw.size _).grown g2 (by simp; omega) (fun b hb => (Own.lt ho hb).1)
      go_roundg (gk - 1)
      case measure => omega
      case rel => exact ⟨j + 1, by go_num, o2, hb2, by omega, by omega⟩
    · obtain rfl : j = n := by omega
      have ho2 := ho
      rw [List.take_of_length_le (by rw [Perms.turnL_len]; omega)] at ho2
      have ho3 : OwnInts wr w.heap.size (.slice a3 (ints ((Perms.turnL j).take j)).length c3) (Perms.turnL j) := by
        rw [List.take_of_length_le (by rw [Perms.turnL_len]; omega)]; exact ho2
      have h3 := Lib.hid (H.out _ _ ho3 hbw)
      clear ho2 ho3
      go_wp2_with fail
      exact h3.out
theorem Perms.mirL_len (n : Nat) : (Perms.mirL n).length = n := by simp [Perms.mirL]
theorem Perms.mirL_get {n j : Nat} (hj : j < n) : (Perms.mirL n)[j]? = some ((n : Int) - 1 - j) := by simp [Perms.mirL, hj]
set_option maxHeartbeats 800000 in
theorem l03Mirror_s {n : Nat} {w : World} {Q : Ending → World → Prop} (hn1 : 1 ≤ n) (hn : n ≤ 10)
    (hQ : ∀ v w', OwnInts w' w.heap.size v (Perms.mirL n) → Below w.heap.size w w' → Q (.returned v) w') :
    Calls Try.prog 105 #[.int .i64 n] w Q := by
  have H := Lib.hid hQ; clear hQ
  go_enter Try.func105, Try.ntmps105
  go_wp2_with fail
  have o0 := own_empty w
  have b0 := below_alloc w (.cells #[] 3)
  go_loopg [3, 4] n (fun gg u3 u4 wr => ∃ (j : Nat), u4 = .int .i64 j ∧ OwnInts wr w.heap.size u3 ((Perms.mirL n).take j) ∧ Below w.heap.size w wr ∧ j + gg ≤ n ∧ n ≤ j + gg)
  case atStart => exact ⟨0, rfl, by simpa using o0, b0, by omega, by omega⟩
  case round =>
    obtain ⟨j, rfl, ho, hbw, hm1, hm2⟩ := hrel
    obtain ⟨a3, c3, rfl, _, _, _⟩ := Own.form ho
    have hil : ((Perms.mirL n).take j).length ≤ 10 := by rw [List.length_take, Perms.mirL_len]; omega
    by_cases hj : j < n
    · have hjI : (j : Int) < n := by omega
      have hst : (Perms.mirL n).take (j + 1) = (Perms.mirL n).take j ++ [(n : Int) - 1 - j] := by
        rw [List.take_add_one, Perms.mirL_get hj]; rfl
      have hst' := Lib.hid hst
      clear hst
      go_wp2_with (at_builtin; refine app_int rfl (.tmp 11) (.tmp 16) rfl rfl (OwnInts.below ho (below_alloc wr _)) rfl (cell_new _ _ _) (by omega) (by have := hbw.size; simp; omega) ?_; intro v2 w2 o2 g2)
      rw [← hst'.out] at o2
      have hs2 := g2.size
      have hbs := hbw.size
      have hb2 : Below w.heap.size w w2 := (hbw.alloc hbw.size _).grown g2 (by simp; omega) (fun b hb => (Own.lt ho hb).1)
      go_roundg (gk - 1)
      case measure => omega
      case rel => exact ⟨j + 1, by go_num, o2, hb2, by omega, by omega⟩
    · obtain rfl : j = n := by omega
      have ho2 := ho
      rw [List.take_of_length_le (by rw [Perms.mirL_len]; omega)] at ho2
      have ho3 : OwnInts wr w.heap.size (.slice a3 (ints ((Perms.mirL j).take j)).length c3) (Perms.mirL j) := by
        rw [List.take_of_length_le (by rw [Perms.mirL_len]; omega)]; exact ho2
      have h3 := Lib.hid (H.out _ _ ho3 hbw)
      clear ho2 ho3
      go_wp2_with fail
      exact h3.out
theorem CyclicGroup_s {n : Nat} {w : World} {Q : Ending → World → Prop} (hn1 : 1 ≤ n) (hn : n ≤ 10)
    (hQ : ∀ v w', OwnRows w' w.heap.size w'.heap.size v (Perms.gofW n [Perms.turnL n]) → Below w.heap.size w w' → Q (.returned (.tuple #[v, .bool (Perms.gofB n [Perms.turnL n])])) w') :
    Calls Try.prog 85 #[.int .i64 n] w Q := by
  have H := Lib.hid hQ; clear hQ
  have hd : Hid (decide ((1 : Int) ≤ n ∧ (n : Int) ≤ 10) = true) := Lib.hid (decide_eq_true (by omega))
  go_enter Try.func85, Try.ntmps85
  go_wp2_with (go_at_call 103; refine l01In_c ?_; rw [hd.out])
  refine l03Turn_s hn1 hn ?_
  intro v1 w1 o1 b1
  have hr := Lib.hid (own_rows_one o1 b1.size).at
  have ba := b1.alloc b1.size (.cells #[v1] 25)
  obtain ⟨a1, c1, rfl, _, _, _⟩ := Own.form o1
  clear o1
  go_wp2_with fail
  refine GroupOf_s hr.out ?_
  intro v2 w2 o2 b2
  have h3 := Lib.hid (H.out v2 w2 (OwnRows.mono o2 ba.size (Nat.le_refl _)) (ba.trans (b2.mono ba.size)))
  obtain ⟨a2, c2, rfl, _, _, _⟩ := o2.form
  go_wp2_with fail
  exact h3.out
theorem DihedralGroup_s {n : Nat} {w : World} {Q : Ending → World → Prop} (hn1 : 1 ≤ n) (hn : n ≤ 10)
    (hQ : ∀ v w', OwnRows w' w.heap.size w'.heap.size v (Perms.gofW n [Perms.turnL n, Perms.mirL n]) → Below w.heap.size w w' → Q (.returned (.tuple #[v, .bool (Perms.gofB n [Perms.turnL n, Perms.mirL n])])) w') :
    Calls Try.prog 86 #[.int .i64 n] w Q := by
  have H := Lib.hid hQ; clear hQ
  have hd : Hid (decide ((1 : Int) ≤ n ∧ (n : Int) ≤ 10) = true) := Lib.hid (decide_eq_true (by omega))
  go_enter Try.func86, Try.ntmps86
  go_wp2_with (go_at_call 103; refine l01In_c ?_; rw [hd.out])
  refine l03Turn_s hn1 hn ?_
  intro v1 w1 o1 b1
  obtain ⟨a1, c1, rfl, _, _, _⟩ := Own.form o1
  have o1' := Lib.hid o1
  clear o1
  go_wp2_with fail
  refine l03Mirror_s hn1 hn ?_
  intro v3 w3 o3 b3
  have b13 := b1.trans (b3.mono b1.size)
  have hr := Lib.hid (rows_two (OwnInts.at (OwnInts.below o1'.out b3)) (OwnInts.at o3))
  have ba := b13.alloc b13.size (.cells #[.slice a1 (ints (Perms.turnL n)).length c1, v3] 25)
  obtain ⟨a3, c3, rfl, _, _, _⟩ := Own.form o3
  clear o3
  go_wp2_with fail
  refine GroupOf_s hr.out ?_
  intro v4 w4 o4 b4
  have h3 := Lib.hid (H.out v4 w4 (OwnRows.mono o4 ba.size (Nat.le_refl _)) (ba.trans (b4.mono ba.size)))
  obtain ⟨a4, c4, rfl, _, _, _⟩ := o4.form
  go_wp2_with fail
  exact h3.out
set_option maxHeartbeats 800000 in
theorem SymmetricGroup_s {n : Nat} {w : World} {Q : Ending → World → Prop} (hn1 : 1 ≤ n) (hn : n ≤ 5)
    (hQ : ∀ v w', OwnRows w' w.heap.size w'.heap.size v (Perms.gofW n [Perms.turnL n, Perms.swpL n]) → Below w.heap.size w w' → Q (.returned (.tuple #[v, .bool (Perms.gofB n [Perms.turnL n, Perms.swpL n])])) w') :
    Calls Try.prog 87 #[.int .i64 n] w Q := by
  have H := Lib.hid hQ; clear hQ
  have hd : Hid (decide ((1 : Int) ≤ n ∧ (n : Int) ≤ 5) = true) := Lib.hid (decide_eq_true (by omega))
  go_enter Try.func87, Try.ntmps87
  go_wp2_with (go_at_call 103; refine l01In_c ?_; rw [hd.out])
  refine IdentityPerm_s hn1 (by omega) ?_
  intro v1 w1 o1 b1
  obtain ⟨a1, c1, rfl, _, _, _⟩ := Own.form o1
  obtain ⟨g, rfl, hgB, hgl⟩ := Own.head o1 (by rw [ints_len, Perms.iota_len]; omega)
  have e1 : (ints (Perms.iota n)).length = n := by rw [ints_len, Perms.iota_len]
  rw [e1] at o1 ⊢
  have o1' := Lib.hid o1
  have hil := Perms.iota_len n
  clear e1
  by_cases h1 : n ≤ 1
  · have hsw : Perms.swpL n = Perms.iota n := if_pos h1
    rw [hsw] at H
    have hnI : (n : Int) ≤ 1 := by omega
    clear o1 hsw
    go_wp2_with fail
    refine l03Turn_s hn1 (by omega) ?_
    intro v3 w3 o3 b3
    have b13 := b1.trans (b3.mono b1.size)
    have hr := Lib.hid (rows_two (OwnInts.at o3) (OwnInts.at (OwnInts.below o1'.out b3)))
    have ba := b13.alloc b13.size (.cells #[v3, .slice (some ⟨g, 0, none⟩) n c1] 25)
    obtain ⟨a3, c3, rfl, _, _, _⟩ := Own.form o3
    clear o3
    go_wp2_with fail
    refine GroupOf_s hr.out ?_
    intro v4 w4 o4 b4
    have h3 := Lib.hid (H.out v4 w4 (OwnRows.mono o4 ba.size (Nat.le_refl _)) (ba.trans (b4.mono ba.size)))
    obtain ⟨a4, c4, rfl, _, _, _⟩ := o4.form
    go_wp2_with fail
    exact h3.out
  · have hsw : Perms.swpL n = ((Perms.iota n).set 0 1).set 1 0 := if_neg h1
    have hnI : (1 : Int) < n := by omega
    obtain ⟨x, hx, hcx⟩ := OwnInts.cell o1 (k := 0) (by omega)
    obtain ⟨z, hz, hcz⟩ := OwnInts.cell (OwnInts.set o1 0 1) (k := 1) (by rw [List.length_set]; omega)
    have hf0 := Own.frozen o1 0
    have hf1 := Own.frozen (OwnInts.set o1 0 1) 1
    have o2 := OwnInts.set (OwnInts.set o1 0 1) 1 0
    rw [← hsw] at o2
    have o2' := Lib.hid o2
    have hg4 := grown_trans (grown_set w1 g 0 (.int .i64 1)) (grown_set _ g 1 (.int .i64 0))
    have b2 := b1.grown hg4 b1.size (fun b hb => by cases hb; exact hgB)
    clear o1 o2 hsw
    go_wp2_with fail
    refine l03Turn_s hn1 (by omega) ?_
    intro v3 w3 o3 b3
    have b13 := b2.trans (b3.mono b2.size)
    have hr := Lib.hid (rows_two (OwnInts.at o3) (OwnInts.at (OwnInts.below o2'.out b3)))
    have ba := b13.alloc b13.size (.cells #[v3, .slice (some ⟨g, 0, none⟩) n c1] 25)
    obtain ⟨a3, c3, rfl, _, _, _⟩ := Own.form o3
    clear o3
    go_wp2_with fail
    refine GroupOf_s hr.out ?_
    intro v4 w4 o4 b4
    have h3 := Lib.hid (H.out v4 w4 (OwnRows.mono o4 ba.size (Nat.le_refl _)) (ba.trans (b4.mono ba.size)))
    obtain ⟨a4, c4, rfl, _, _, _⟩ := o4.form
    go_wp2_with fail
    exact h3.out
set_option maxHeartbeats 3200000 in
set_option maxRecDepth 20000 in
theorem l03Draw_c {c : Nat} {w : World} {Q : Ending → World → Prop} (hc : Cur w c)
    (hQ : ∀ v g w', Perms.grpB g = true → 1 ≤ (Perms.row0 g).length → (Perms.row0 g).length ≤ 6 → OwnRows w' w.heap.size w'.heap.size v g → Below c w w' → Q (.returned v) w') :
    Calls Try.prog 46 #[.pointer (some ⟨c, 0, none⟩)] w Q := by
  have H := Lib.hid hQ; clear hQ
  have hcl := hc.lt
  go_enter Try.func46, Try.ntmps46
  go_wp2_with fail
  refine l01Below_c hc (by omega) (by omega) ?_
  intro x1 w1 hx10 hx11 hc1 hg1 hz1
  obtain ⟨n, hn⟩ : ∃ n : Nat, 1 + x1 = (n : Int) := ⟨(1 + x1).toNat, by omega⟩
  have hn1 : 1 ≤ n := by omega
  have hn6 : n ≤ 6 := by omega
  have bw1 : Below c w w1 := (Below.refl c w).grown hg1 (Nat.le_of_lt hcl) (fun b hb => by cases hb; exact Nat.le_refl _)
  have gf := Lib.hid (Perms.mk_facts n (List.mem_range.2 (by omega)) hn1)
  go_wp2_with fail
  refine l01Below_c hc1 (by omega) (by omega) ?_
  intro x2 w2 hx20 hx21 hc2 hg2 hz2
  have hsz : w2.heap.size = w.heap.size := by omega
  have bw2 : Below c w w2 := bw1.grown hg2 (by omega) (fun b hb => by cases hb; exact Nat.le_refl _)
  -- what is left when a group is there
  have fin : Hid (∀ v g w', Perms.gofB n g = true → OwnRows w' w.heap.size w'.heap.size v (Perms.gofW n g) → Below c w w' → Q (.returned v) w') := Lib.hid (fun v g w' hg ho hb => by
    obtain ⟨a1, a2, a3, a4⟩ := Perms.gof_grp hg
    exact H.out v _ w' a1 (by omega) (by omega) ho hb)
  have hle2 : c ≤ w2.heap.size := by omega
  clear hx10 hx11 hn
  by_cases h0 : x2 = 0
  · subst h0
    go_wp2_with fail
    refine CyclicGroup_s hn1 (by omega) ?_
    intro v3 w3 o3 b3
    have h3 := Lib.hid (fin.out v3 _ w3 gf.out.1 (OwnRows.mono o3 (by omega) (Nat.le_refl _)) (bw2.trans (b3.mono hle2)))
    obtain ⟨a3, c3, rfl, _, _, _⟩ := o3.form
    go_wp2_with fail
    exact h3.out
  by_cases h1 : x2 = 1
  · subst h1
    go_wp2_with fail
    refine DihedralGroup_s hn1 (by omega) ?_
    intro v3 w3 o3 b3
    have h3 := Lib.hid (fin.out v3 _ w3 gf.out.2 (OwnRows.mono o3 (by omega) (Nat.le_refl _)) (bw2.trans (b3.mono hle2)))
    obtain ⟨a3, c3, rfl, _, _, _⟩ := o3.form
    go_wp2_with fail
    exact h3.out
  by_cases h2 : x2 = 2
  · subst h2
    have fin2 : Hid (∀ (m : Nat) v w', 1 ≤ m → m ≤ 4 → OwnRows w' w.heap.size w'.heap.size v (Perms.gofW m [Perms.turnL m, Perms.swpL m]) → Below c w w' → Q (.returned v) w') := Lib.hid (fun m v w' hm1 hm4 ho hb => by
      obtain ⟨a1, a2, a3, a4⟩ := Perms.gof_grp (Perms.mk_facts2 m (List.mem_range.2 (by omega)) hm1)
      exact H.out v _ w' a1 (by omega) (by omega) ho hb)
    obtain ⟨m, hm1, hm4, hmI⟩ : ∃ m : Nat, 1 ≤ m ∧ m ≤ 4 ∧ min (n : Int) 4 = (m : Int) := ⟨min n 4, by omega, by omega, by omega⟩
    go_wp2_with fail
    refine SymmetricGroup_s (n := m) hm1 (by omega) ?_
    intro v3 w3 o3 b3
    have h3 := Lib.hid (fin2.out m v3 w3 hm1 hm4 (OwnRows.mono o3 (by omega) (Nat.le_refl _)) (bw2.trans (b3.mono hle2)))
    obtain ⟨a3, c3, rfl, _, _, _⟩ := o3.form
    clear hmI
    go_wp2_with fail
    exact h3.out
  go_wp2_with fail
  refine l02Draw_c hc2 hn1 (by omega) ?_
  intro v3 p w3 hp hpl o3 hc3 hg3
  obtain ⟨a3, c3, rfl, _, _, _⟩ := Own.form o3
  rw [ints_len, hpl] at o3 ⊢
  have hs3 := hg3.size
  have bw3 := bw2.grown hg3 hle2 (fun b hb => by cases hb; exact Nat.le_refl _)
  go_wp2_with fail
  refine l02Draw_c hc3 hn1 (by omega) ?_
  intro v4 q w4 hq hql o4 hc4 hg4
  obtain ⟨a4, c4, rfl, _, _, _⟩ := Own.form o4
  rw [ints_len, hql] at o4 ⊢
  have hs4 := hg4.size
  have bw4 := bw3.grown hg4 (by omega) (fun b hb => by cases hb; exact Nat.le_refl _)
  have o34 := Own.grown o3 hg4 (by
    cases hb : (Value.slice a3 n c3).ownBlock with
    | none => exact .inl rfl
    | some b =>
      refine .inr fun e => ?_
      cases e
      have := (Own.lt o3 hb).1
      omega)
  have hr := Lib.hid (rows_two (OwnInts.at o34) (OwnInts.at o4))
  have hba := below_alloc w4 (.cells #[.slice a3 n c3, .slice a4 n c4] 25)
  have bwa := bw4.trans (hba.mono (by omega))
  have hca := hc4.below hba
  have hsa := hba.size
  go_wp2_with fail
  refine GroupOf_s hr.out ?_
  intro v5 w5 o5 b5
  have bw5 := bwa.trans (b5.mono (by omega))
  have hc5 := hca.below b5
  have hs5 := b5.size
  have big : ∀ w6 w7 : World, True := fun _ _ => trivial
  cases hgb : Perms.gofB n [p, q] with
  | true =>
    have h3 := Lib.hid (fin.out v5 _ w5 hgb (OwnRows.mono o5 (by omega) (Nat.le_refl _)) bw5)
    obtain ⟨a5, c5, rfl, _, _, _⟩ := o5.form
    clear hgb
    by_cases h24 : (Perms.gofW n [p, q]).length ≤ 24
    · have h24I : ((Perms.gofW n [p, q]).length : Int) ≤ 24 := by omega
      go_wp2_with fail
      exact h3.out
    · have h24I : (24 : Int) < (Perms.gofW n [p, q]).length := by omega
      clear h24
      go_wp2_with fail
      refine l02Draw_c hc5 hn1 (by omega) ?_
      intro v6 r w6 hr6 hrl o6 hc6 hg6
      have hgo := Lib.hid (Perms.gof_one hn1 hn6 hr6 hrl)
      have hs6 := hg6.size
      have bw6 := bw5.grown hg6 (by omega) (fun b hb => by cases hb; exact Nat.le_refl _)
      have hr7 := Lib.hid (own_rows_one o6 hs6).at
      have hba7 := below_alloc w6 (.cells #[v6] 25)
      have bw7 := bw6.trans (hba7.mono (by omega))
      have hsa7 := hba7.size
      obtain ⟨a6, c6, rfl, _, _, _⟩ := Own.form o6
      clear o6
      go_wp2_with fail
      refine GroupOf_s hr7.out ?_
      intro v8 w8 o8 b8
      have h8 := Lib.hid (fin.out v8 _ w8 hgo.out (OwnRows.mono o8 (by omega) (Nat.le_refl _)) (bw7.trans (b8.mono (by omega))))
      obtain ⟨a8, c8, rfl, _, _, _⟩ := o8.form
      go_wp2_with fail
      exact h8.out
  | false =>
    obtain ⟨a5, c5, rfl, _, _, _⟩ := o5.form
    clear hgb
    go_wp2_with fail
    refine l02Draw_c hc5 hn1 (by omega) ?_
    intro v6 r w6 hr6 hrl o6 hc6 hg6
    have hgo := Lib.hid (Perms.gof_one hn1 hn6 hr6 hrl)
    have hs6 := hg6.size
    have bw6 := bw5.grown hg6 (by omega) (fun b hb => by cases hb; exact Nat.le_refl _)
    have hr7 := Lib.hid (own_rows_one o6 hs6).at
    have hba7 := below_alloc w6 (.cells #[v6] 25)
    have bw7 := bw6.trans (hba7.mono (by omega))
    have hsa7 := hba7.size
    obtain ⟨a6, c6, rfl, _, _, _⟩ := Own.form o6
    clear o6
    go_wp2_with fail
    refine GroupOf_s hr7.out ?_
    intro v8 w8 o8 b8
    have h8 := Lib.hid (fin.out v8 _ w8 hgo.out (OwnRows.mono o8 (by omega) (Nat.le_refl _)) (bw7.trans (b8.mono (by omega))))
    obtain ⟨a8, c8, rfl, _, _, _⟩ := o8.form
    go_wp2_with fail
    exact h8.out
set_option maxHeartbeats 400000 in
theorem MakeGroup_c {v : Value} {bs : List Int} {m : Int} {w : World} {Q : Ending → World → Prop} (hb : BytesAt w v bs) (hm0 : 0 ≤ m) (hm : m ≤ 1000)
    (hQ : ∀ u g w', Perms.grpB g = true → 1 ≤ (Perms.row0 g).length → (Perms.row0 g).length ≤ 6 → OwnRows w' w.heap.size w'.heap.size u g → Below w.heap.size w w' → Q (.returned u) w') :
    Calls Try.prog 8 #[v, .int .i64 m] w Q := by
  have H := Lib.hid hQ; clear hQ
  go_enter Try.func8, Try.ntmps8
  go_wp2_with fail
  refine l16New_c hb hm0 hm ?_
  intro w1 hc1 hb1 hs1
  go_wp2_with fail
  refine l03Draw_c hc1 ?_
  intro u g w2 h1 h2 h3 o2 b2
  have hz := hb1.size
  have h4 := Lib.hid (H.out u g w2 h1 h2 h3 (OwnRows.mono o2 (by omega) (Nat.le_refl _)) (hb1.trans b2))
  obtain ⟨ao, co, rfl, _, _, _⟩ := o2.form
  go_wp2_with fail
  exact h4.out
end Go.Proofs.Ytdibmjijpdliaaa
/- The law FnContents: what it computes. -/
set_option linter.unusedVariables false
namespace Go.Proofs.Ytdibmjijpdliaaa
open Go.RowKit

theorem ints_three (w : World) (a b c : Int) : OwnInts (w.alloc (.cells #[.int .i64 a, .int .i64 b, .int .i64 c] 3)) w.heap.size (.slice (some ⟨w.heap.size, 0, none⟩) 3 3) [a, b, c] := by
  have h4 := World.ownsRow_lit (size := 1) w (e := 3) #[.int .i64 a, .int .i64 b, .int .i64 c] 3 (Nat.le_refl _) (by unfold maxLen; omega) (by simp)
  exact h4
theorem Perms.sumI_bd {f : Nat → Int} : ∀ j : Nat, (∀ i, i < j → 0 ≤ f i ∧ f i ≤ 1048576) → 0 ≤ Perms.sumI f j ∧ Perms.sumI f j ≤ 1048576 * j
  | 0, _ => by simp [Perms.sumI]
  | j + 1, h => by
    have ih := Perms.sumI_bd j fun i hi => h i (by omega)
    have := h j (by omega)
    unfold Perms.sumI
    omega
theorem Perms.conO_bd {g : List (List Int)} (h : Perms.grpB g = true) (c : List Int) : 0 ≤ Perms.conO g c ∧ Perms.conO g c ≤ 1048576 := by
  obtain ⟨h1, h2, _, _⟩ := Perms.grpB_parts h
  have hb := Perms.conTo_bd g c g.length
  unfold Perms.conO
  rw [if_pos h]
  refine ⟨Int.ediv_nonneg hb.1 (by omega), ?_⟩
  refine Int.ediv_le_of_le_mul (by omega) ?_
  exact hb.2
/-- The sum over the contents of three colors, a row at a time. -/
def Perms.threeRow (g : List (List Int)) (n a : Nat) (j : Nat) : Int := Perms.sumI (fun b => Perms.conO g [(a : Int), b, (n : Int) - a - b]) j
def Perms.threeTo (g : List (List Int)) (n : Nat) (j : Nat) : Int := Perms.sumI (fun a => Perms.threeRow g n a (n - a + 1)) j
theorem Perms.threeRow_step (g : List (List Int)) (n a j : Nat) : Perms.threeRow g n a (j + 1) = Perms.threeRow g n a j + Perms.conO g [(a : Int), j, (n : Int) - a - j] := rfl
theorem Perms.threeTo_step (g : List (List Int)) (n j : Nat) : Perms.threeTo g n (j + 1) = Perms.threeTo g n j + Perms.threeRow g n j (n - j + 1) := rfl
theorem Perms.threeRow_bd {g : List (List Int)} (h : Perms.grpB g = true) (n a j : Nat) : 0 ≤ Perms.threeRow g n a j ∧ Perms.threeRow g n a j ≤ 1048576 * j := Perms.sumI_bd j fun i _ => Perms.conO_bd h _
theorem Perms.threeTo_bd {g : List (List Int)} (h : Perms.grpB g = true) {n : Nat} (hn : n ≤ 6) : ∀ j, 0 ≤ Perms.threeTo g n j ∧ Perms.threeTo g n j ≤ 7340032 * j
  | 0 => by simp [Perms.threeTo, Perms.sumI]
  | j + 1 => by
    have ih := Perms.threeTo_bd h hn j
    have h1 := Perms.threeRow_bd h n j (n - j + 1)
    rw [Perms.threeTo_step]
    omega
def Perms.twoSum (g : List (List Int)) (n : Nat) (j : Nat) : Int := Perms.sumI (fun k => Perms.conO g [(n : Int) - k, k]) j
theorem Perms.twoSum_bd {g : List (List Int)} (h : Perms.grpB g = true) (n j : Nat) : 0 ≤ Perms.twoSum g n j ∧ Perms.twoSum g n j ≤ 1048576 * j := Perms.sumI_bd j fun i _ => Perms.conO_bd h _
def Perms.keptSum (p : List Int) (n : Nat) (j : Nat) : Int := Perms.sumI (fun k => Perms.fixO p [(n : Int) - k, k]) j
theorem Perms.keptSum_bd (p : List Int) (n j : Nat) : 0 ≤ Perms.keptSum p n j ∧ Perms.keptSum p n j ≤ 1048576 * j := Perms.sumI_bd j fun i _ => Perms.fixO_bd p _
structure Perms.ConF (g : List (List Int)) (n : Nat) : Prop where
  zero : Perms.conO g [(n : Int), 0] = 1
  one : Perms.conO g [(n : Int) - 1, 1] = ((Perms.orbTo g n).2.length : Int)
  pos : ∀ k : Nat, k ≤ n → 1 ≤ Perms.conO g [(n : Int) - k, k]
  sym : ∀ k : Nat, k ≤ n → Perms.conO g [(n : Int) - k, k] = Perms.conO g [(n : Int) - (n - k : Nat), (n - k : Nat)]
  sum : Perms.twoSum g n (n + 1) = Perms.colO g 2
  three : Perms.threeTo g n (n + 1) = Perms.colO g 3
  kept : ∀ p ∈ g, Perms.keptSum p n (n + 1) = ((2 ^ (Perms.cycles p).length : Nat) : Int)
theorem Perms.conF {g : List (List Int)} {n : Nat} (h : Perms.grpB g = true) (hr : (Perms.row0 g).length = n) (h1 : 1 ≤ n) (hn : n ≤ 6) : Perms.ConF g n := by
  have G := Perms.grpB_grp h
  rw [hr] at G
  refine ⟨Perms.con_none h hr hn, Perms.con_orbits h hr hn h1, fun k hk => Perms.con_pos h hr hn hk, fun k hk => ?_, Perms.two_sum h hr hn, Perms.three_sum h hr hn, fun p hp => Perms.kept_sum (G.perm p hp) (G.len p hp) hn⟩
  rw [Perms.con_swap, show (n : Int) - ((n - k : Nat) : Int) = k from by omega, show (n : Int) - (k : Int) = ((n - k : Nat) : Int) from by omega]
set_option maxHeartbeats 6400000 in
set_option maxRecDepth 60000 in
theorem FnContents_l {v : Value} {bs : List Int} {w : World} {Q : Ending → World → Prop} (hb : BytesAt w v bs) (hQ : ∀ w', Below w.heap.size w w' → Q (.returned (.bool true)) w') :
    Calls Try.prog 5 #[v] w Q := by
  have H := Lib.hid hQ; clear hQ
  have hb' := hb
  obtain ⟨ao, ca, rfl, la, lca, cca⟩ := hb'.form
  rw [show (bytes bs).length = bs.length from by simp [bytes]] at *
  by_cases hlen : (bs.length : Int) ≤ 1048576
  rotate_left
  · have hl2 : (1048576 : Int) < bs.length := by omega
    go_enter Try.func5, Try.ntmps5
    go_wp2_with fail
    exact H.out _ (Below.refl _ _)
  have hb0 := Lib.hid hb
  clear hb hb'
  go_enter Try.func5, Try.ntmps5
  go_wp2_with fail
  refine MakeGroup_c hb0.out (by omega) (by omega) ?_
  intro v1 g w1 hgr hn1 hn6 o1 b1
  obtain ⟨n, hn⟩ : ∃ n, (Perms.row0 g).length = n := ⟨_, rfl⟩
  rw [hn] at hn1 hn6
  obtain ⟨hl1, hl2, _, _⟩ := Perms.grpB_parts hgr
  have F : Hid (Perms.ConF g n) := Lib.hid (Perms.conF hgr hn hn1 hn6)
  have hg1 := Lib.hid o1.at
  obtain ⟨ag, cg, rfl, _, _, _⟩ := o1.form
  obtain ⟨b0', f0', u0, x0, e0, hx0, hcx0, hux0⟩ := hg1.out.cell (k := 0) (by omega)
  cases e0
  have hx0l : x0.length = n := by
    rw [← hn]
    have := hx0.out
    simp [Perms.row0, List.getD, this]
  obtain ⟨ax0, kx0, rfl, _, _, _⟩ := hux0.form
  rw [hx0l, Nat.add_zero] at hcx0
  have hgr' := Lib.hid hgr
  have hn' := Lib.hid hn
  clear hx0 hux0 hx0l o1 hgr hn
  go_wp2_with fail
  refine TwoColors_i hg1.out hgr'.out hn'.out ?_
  intro v2 w2 o2 b2
  obtain ⟨al, cl, rfl, _, _, _⟩ := Own.form o2
  rw [ints_len, Perms.twoC_len] at o2 ⊢
  obtain ⟨N, hN⟩ : ∃ N, N = n + 1 := ⟨_, rfl⟩
  have hNb : ((N : Int) != (n : Int) + 1) = false := by rw [hN]; simp
  have hNw : ((N : Int) != IntKind.i64.wrap ((n : Int) + 1)) = false := by rw [IntWalk.i64_in _ (by omega)]; exact hNb
  have hN0 : 0 < (N : Int) := by omega
  have hN1 : 1 < (N : Int) := by omega
  have hl2' : Hid (IntsAt w2 (.slice al N cl) (Perms.twoC g n (n + 1))) := Lib.hid (by rw [hN]; exact OwnInts.at o2)
  rw [← hN]
  have hN' := Lib.hid hN
  clear hN
  have hg2 := Lib.hid (hg1.out.below b2)
  have bw2 := b1.trans (b2.mono b1.size)
  obtain ⟨bl, fl, y0, el, hy0, hcy0⟩ := hl2'.out.cell (k := 0) (by rw [Perms.twoC_len]; omega)
  cases el
  obtain ⟨bl1, fl1, y1, el1, hy1, hcy1⟩ := hl2'.out.cell (k := 1) (by rw [Perms.twoC_len]; omega)
  cases el1
  have hy0v : y0 = 1 := by
    have h := hy0.out
    rw [Perms.twoC_get (by omega)] at h
    have h := Option.some.inj h
    rw [← h]
    have := F.out.zero
    simpa using this
  have hy1v : y1 = ((Perms.orbTo g n).2.length : Int) := by
    have h := hy1.out
    rw [Perms.twoC_get (by omega)] at h
    have h := Option.some.inj h
    rw [← h]
    exact F.out.one
  subst hy0v
  obtain ⟨m, hm⟩ : ∃ m, m = (Perms.orbTo g n).2.length := ⟨_, rfl⟩
  rw [← hm] at hy1v
  subst hy1v
  have hm' := Lib.hid hm
  rw [Nat.add_zero] at hcy0
  clear o2 hy0 hy1 hm
  go_wp2_with fail
  have hgd : RowsAt w2.drew _ g := RowsAt.drawn hg2.out (Drawn.one w2 1)
  go_region_with (first
    | (go_at_call 27; refine OrbitsOf_i hgd hgr'.out hn'.out (Perms.orb_ne hgr'.out hn'.out) ?_; intro v3 w3 o3 b3; obtain ⟨a3, c3, rfl, _, _, _⟩ := o3.form; rw [← hm'.out]; have b23 : Below w2.heap.size w2 w3 := ((Drawn.one w2 1).below _).trans b3; have hcy0w := below_cells b23 _ _ hcy0; have hcy1w := below_cells b23 _ _ hcy1))
  -- both orders
  · skip
    have bw3 := bw2.trans (b23.mono bw2.size)
    have hg3 := Lib.hid (hg2.out.below b23)
    have hl3 := Lib.hid (hl2'.out.below b23)
    go_wp2_with fail
    go_loopg [6, 49] N (fun gg u6 u49 wr => ∃ (j : Nat), u49 = .int .i64 j ∧ u6 = .int .i64 (Perms.twoSum g n j) ∧ Below w3.heap.size w3 wr ∧ j + gg ≤ N ∧ N ≤ j + gg)
    case atStart => exact ⟨0, rfl, rfl, Below.refl _ _, by omega, by omega⟩
    case round =>
      obtain ⟨j, rfl, rfl, bj, hm1, hm2⟩ := hrel
      have hsb := Perms.twoSum_bd hgr'.out n j
      by_cases hj : j < N
      · have hjI : (j : Int) < N := by omega
        have hjn : j ≤ n := by have := hN'.out; omega
        have hjN : j ≤ 7 := by omega
        obtain ⟨b7, f7, y, e7, hy, hcy⟩ := (hl3.out.below bj).cell (k := j) (by rw [Perms.twoC_len]; omega)
        cases e7
        obtain ⟨b8, f8, z, e8, hz, hcz⟩ := (hl3.out.below bj).cell (k := n - j) (by rw [Perms.twoC_len]; omega)
        cases e8
        obtain ⟨r, hr⟩ : ∃ r : Nat, r = n - j := ⟨_, rfl⟩
        have hrI : (n : Int) - (j : Int) = r := by omega
        have hrN : (r : Int) < N := by have := hN'.out; omega
        have hyv : y = Perms.conO g [(n : Int) - j, j] := by
          have h := hy.out
          rw [Perms.twoC_get (by omega)] at h
          exact (Option.some.inj h).symm
        have hzv : z = Perms.conO g [(n : Int) - j, j] := by
          have h := hz.out
          rw [Perms.twoC_get (by omega)] at h
          rw [← Option.some.inj h]
          exact (F.out.sym j hjn).symm
        have hpos := F.out.pos j hjn
        have hcb := Perms.conO_bd hgr'.out [(n : Int) - j, j]
        have hst : Perms.twoSum g n (j + 1) = Perms.twoSum g n j + Perms.conO g [(n : Int) - j, j] := rfl
        rw [← hr] at hcz
        obtain ⟨P, hP⟩ : ∃ P, P = Perms.conO g [(n : Int) - j, j] := ⟨_, rfl⟩
        rw [← hP] at hyv hzv hpos hcb hst
        subst hyv
        subst hzv
        have hst' := Lib.hid hst
        clear hst hP hr hy hz
        go_wp2_with fail
        go_roundg (gk - 1)
        case measure => omega
        case rel => exact ⟨j + 1, by go_num, by rw [hst'.out], bj, by omega, by omega⟩
      · have hjN : j = n + 1 := by have := hN'.out; omega
        have hjI : (N : Int) ≤ j := by omega
        have hj9 : (j : Int) ≤ 9 := by omega
        have hdA2 : decide (j < N) = false := decide_eq_false hj
        have hdA : decide ((j : Int) < (N : Int)) = false := decide_eq_false (by omega)
        have hg4 := Lib.hid (hg3.out.below bj)
        have bw4 := bw3.trans (bj.mono bw3.size)
        obtain ⟨wA, rfl⟩ : ∃ wA, wA = wr := ⟨_, rfl⟩
        obtain ⟨S, hS⟩ : ∃ S, S = Perms.twoSum g n j := ⟨_, rfl⟩
        have hsum2 : Hid (S = Perms.colO g 2) := Lib.hid (by rw [hS, hjN]; exact F.out.sum)
        rw [← hS]
        clear hS hsb hj hjN
        go_wp2_with fail
        go_loopg [9, 10] (n + 1) (fun gg u9 u10 w5 => ∃ (a : Nat), u10 = .int .i64 a ∧ u9 = .int .i64 (Perms.threeTo g n a) ∧ Below wA.heap.size wA w5 ∧ a + gg ≤ n + 1 ∧ n + 1 ≤ a + gg)
        case atStart => exact ⟨0, rfl, rfl, Below.refl _ _, by omega, by omega⟩
        case round =>
          obtain ⟨a, rfl, rfl, ba, ha1, ha2⟩ := hrel
          obtain ⟨w5, rfl⟩ : ∃ w5, w5 = wr := ⟨_, rfl⟩
          have htb := Perms.threeTo_bd hgr'.out hn6 a
          by_cases ha : a ≤ n
          · have haI : (a : Int) ≤ n := by omega
            obtain ⟨gi, hgi⟩ : ∃ g' : Nat, g' = gk := ⟨_, rfl⟩
            go_wp2_with fail
            go_loopg [9, 11] (n - a + 1) (fun gg u9 u11 w7 => ∃ (b : Nat), u11 = .int .i64 b ∧ u9 = .int .i64 (Perms.threeTo g n a + Perms.threeRow g n a b) ∧ Below wA.heap.size wA w7 ∧ b + gg ≤ n - a + 1 ∧ n - a + 1 ≤ b + gg)
            case atStart => exact ⟨0, rfl, by simp [Perms.threeRow, Perms.sumI], ba, by omega, by omega⟩
            case round =>
              obtain ⟨b, rfl, rfl, bb, hb1, hb2⟩ := hrel
              obtain ⟨w7, rfl⟩ : ∃ w7, w7 = wr := ⟨_, rfl⟩
              have hrb := Perms.threeRow_bd hgr'.out n a b
              by_cases hb : a + b ≤ n
              · have hbI : (a : Int) + b ≤ n := by omega
                have hb7 : b ≤ 7 := by omega
                have ha7 : a ≤ 7 := by omega
                have hlit := Lib.hid (OwnInts.at (ints_three w7 (a : Int) b ((n : Int) - a - b)))
                have bal := below_alloc w7 (.cells #[.int .i64 (a : Int), .int .i64 (b : Int), .int .i64 ((n : Int) - a - b)] 3)
                have bba := bb.trans (bal.mono bb.size)
                have hga := Lib.hid (hg4.out.below bba)
                obtain ⟨P, hP⟩ : ∃ P, P = Perms.conO g [(a : Int), b, (n : Int) - a - b] := ⟨_, rfl⟩
                have hP2 : Hid (Perms.conO g [(n : Int) - a - b, a, b] = P) := Lib.hid (by rw [hP]; exact (Perms.con_turn g (a : Int) b ((n : Int) - a - b)).symm)
                have hcb := Perms.conO_bd hgr'.out [(a : Int), b, (n : Int) - a - b]
                have hst := Perms.threeRow_step g n a b
                rw [← hP] at hst hcb
                have hP' := Lib.hid hP
                have hst' := Lib.hid hst
                clear hst hP
                go_wp2_with fail
                refine CountContents_i hga.out hlit.out ?_
                intro w8 b8
                rw [← hP'.out]
                have bb8 := bba.trans (b8.mono bba.size)
                have hlit2 := Lib.hid (OwnInts.at (ints_three w8 ((n : Int) - a - b) (a : Int) b))
                have bal2 := below_alloc w8 (.cells #[.int .i64 ((n : Int) - a - b), .int .i64 (a : Int), .int .i64 (b : Int)] 3)
                have bba2 := bb8.trans (bal2.mono bb8.size)
                have hga2 := Lib.hid (hg4.out.below bba2)
                go_wp2_with fail
                refine CountContents_i hga2.out hlit2.out ?_
                intro w9 b9
                rw [hP2.out]
                have bb9 := bba2.trans (b9.mono bba2.size)
                go_wp2_with fail
                go_roundg (gk - 1)
                case measure => omega
                case rel => exact ⟨b + 1, by go_num, by rw [hst'.out, Int.add_assoc], bb9, by omega, by omega⟩
              · have hbe : b = n - a + 1 := by omega
                have hbI : (n : Int) < (a : Int) + b := by omega
                have hst : Perms.threeTo g n a + Perms.threeRow g n a b = Perms.threeTo g n (a + 1) := by rw [hbe]; rfl
                rw [hst]
                have hb8 : b ≤ 8 := by omega
                have hdB2 : decide (a + b ≤ n) = false := decide_eq_false hb
                have hdB : decide ((a : Int) + b ≤ (n : Int)) = false := decide_eq_false (by omega)
                clear hst hbe hb
                go_wp2_with fail
                go_roundg (gi - 1)
                case measure => omega
                case rel => exact ⟨a + 1, by go_num, rfl, bb, by omega, by omega⟩
          · have hae : a = n + 1 := by omega
            have haI : (n : Int) < a := by omega
            have ha9 : (a : Int) ≤ 9 := by omega
            have hdC2 : decide (a ≤ n) = false := decide_eq_false ha
            have hdC : decide ((a : Int) ≤ (n : Int)) = false := decide_eq_false (by omega)
            have hg5 := Lib.hid (hg4.out.below ba)
            have bw5 := bw4.trans (ba.mono bw4.size)
            obtain ⟨S3, hS3⟩ : ∃ S3, S3 = Perms.threeTo g n a := ⟨_, rfl⟩
            have hthree : Hid (S3 = Perms.colO g 3) := Lib.hid (by rw [hS3, hae]; exact F.out.three)
            rw [← hS3]
            obtain ⟨q, hq⟩ : ∃ q : Nat, q + 1 = g.length := ⟨g.length - 1, by omega⟩
            have hqI : (g.length : Int) - 1 = q := by omega
            have hqg : (q : Int) < g.length := by omega
            obtain ⟨b7, f7, up, pp, e7, hp, hcp, hup⟩ := hg5.out.cell (k := q) (by omega)
            cases e7
            obtain ⟨ap, cp, rfl, _, _, _⟩ := hup.form
            have hup' := Lib.hid hup
            have hkept := Lib.hid (F.out.kept pp (List.mem_of_getElem? hp.out))
            have hG := Perms.grpB_grp hgr'.out
            have hpl : pp.length = n := by rw [hG.len pp (List.mem_of_getElem? hp.out)]; exact hn'.out
            rw [hpl] at hup' hcp
            clear hS3 htb ha hup hq hG hpl hae
            go_wp2_with fail
            go_loopg [14, 15] (n + 1) (fun gg u14 u15 w6 => ∃ (k : Nat), u15 = .int .i64 k ∧ u14 = .int .i64 (Perms.keptSum pp n k) ∧ Below w5.heap.size w5 w6 ∧ k + gg ≤ n + 1 ∧ n + 1 ≤ k + gg)
            case atStart => exact ⟨0, rfl, rfl, Below.refl _ _, by omega, by omega⟩
            case round =>
              obtain ⟨k, rfl, rfl, bk, hk1, hk2⟩ := hrel
              obtain ⟨w6, rfl⟩ : ∃ w6, w6 = wr := ⟨_, rfl⟩
              have hkb := Perms.keptSum_bd pp n k
              by_cases hk : k ≤ n
              · have hkI : (k : Int) ≤ n := by omega
                have hk7 : k ≤ 7 := by omega
                have hlit := Lib.hid (OwnInts.at (ints_two w6 ((n : Int) - k) k))
                have bal := below_alloc w6 (.cells #[.int .i64 ((n : Int) - k), .int .i64 (k : Int)] 3)
                have bba := bk.trans (bal.mono bk.size)
                have hpa := Lib.hid (hup'.out.below bba)
                obtain ⟨P, hP⟩ : ∃ P, P = Perms.fixO pp [(n : Int) - k, k] := ⟨_, rfl⟩
                have hcb := Perms.fixO_bd pp [(n : Int) - k, k]
                have hst : Perms.keptSum pp n (k + 1) = Perms.keptSum pp n k + Perms.fixO pp [(n : Int) - k, k] := rfl
                rw [← hP] at hst hcb
                have hP' := Lib.hid hP
                have hst' := Lib.hid hst
                clear hst hP
                go_wp2_with fail
                refine CountFixed_i hpa.out hlit.out ?_
                intro w8 b8
                rw [← hP'.out]
                have bb8 := bba.trans (b8.mono bba.size)
                go_wp2_with fail
                go_roundg (gk - 1)
                case measure => omega
                case rel => exact ⟨k + 1, by go_num, by rw [hst'.out], bb8, by omega, by omega⟩
              · have hke : k = n + 1 := by omega
                have hkI : (n : Int) < k := by omega
                have hk9 : (k : Int) ≤ 9 := by omega
                have hg6 := Lib.hid (hg5.out.below bk)
                have hp6 := Lib.hid (hup'.out.below bk)
                have bw6 := bw5.trans (bk.mono bw5.size)
                obtain ⟨K, hK⟩ : ∃ K, K = Perms.keptSum pp n k := ⟨_, rfl⟩
                have hK2 : Hid (K = ((2 ^ (Perms.cycles pp).length : Nat) : Int)) := Lib.hid (by rw [hK, hke]; exact hkept.out)
                rw [← hK]
                have hS2 : Hid (Perms.colO g 2 = S) := Lib.hid hsum2.out.symm
                have hS3' : Hid (Perms.colO g 3 = S3) := Lib.hid hthree.out.symm
                clear hK hkb hk hke
                go_wp2_with fail
                refine CountColorings_i hg6.out ?_
                intro w7 b7'
                rw [hS2.out]
                have hg7 := Lib.hid (hg6.out.below b7')
                have hp7 := Lib.hid (hp6.out.below b7')
                have bw7 := bw6.trans (b7'.mono bw6.size)
                go_wp2_with fail
                refine CountColorings_i hg7.out ?_
                intro w8 b8'
                rw [hS3'.out]
                have hp8 := Lib.hid (hp7.out.below b8')
                have bw8 := bw7.trans (b8'.mono bw7.size)
                obtain ⟨mm, hmm⟩ : ∃ mm, mm = (Perms.cycles pp).length := ⟨_, rfl⟩
                have hmb := Perms.cycles_len pp
                rw [← hmm] at hmb
                have hmm' := Lib.hid hmm
                have hp2 : 2 ^ mm ≤ 2 ^ 10 := Nat.pow_le_pow_right (by omega) hmb
                obtain ⟨pw, hpw⟩ : ∃ pw : Nat, pw = 2 ^ mm := ⟨_, rfl⟩
                have hpI : (2 : Int) ^ mm = (pw : Int) := by rw [hpw]; exact (Int.natCast_pow 2 mm).symm
                have hpw9 : pw ≤ 1024 := by rw [hpw]; exact hp2
                have hw2 : wrap64 ((2 : Int) ^ mm) = (2 : Int) ^ mm := IntWalk.wrap64_in _ (by rw [hpI]; omega)
                have hKb : (K == wrap64 ((2 : Int) ^ mm)) = true := by rw [hw2, hpI, hK2.out, ← hmm, ← hpw, beq_iff_eq]
                have hKb2 : (K == (2 : Int) ^ mm) = true := by rw [hpI, hK2.out, ← hmm, ← hpw, beq_iff_eq]
                clear hmm hp2 hpI hw2 hpw hpw9
                go_wp2_with (go_at_call 29; refine CountCycles_i hp8.out ?_; intro w9 b9'; rw [← hmm'.out]; have bw9 := bw8.trans (b9'.mono bw8.size))
                exact H.out _ bw9
  · skip
    have bw3 := bw2.trans (b23.mono bw2.size)
    have hg3 := Lib.hid (hg2.out.below b23)
    have hl3 := Lib.hid (hl2'.out.below b23)
    go_wp2_with fail
    go_loopg [6, 49] N (fun gg u6 u49 wr => ∃ (j : Nat), u49 = .int .i64 j ∧ u6 = .int .i64 (Perms.twoSum g n j) ∧ Below w3.heap.size w3 wr ∧ j + gg ≤ N ∧ N ≤ j + gg)
    case atStart => exact ⟨0, rfl, rfl, Below.refl _ _, by omega, by omega⟩
    case round =>
      obtain ⟨j, rfl, rfl, bj, hm1, hm2⟩ := hrel
      have hsb := Perms.twoSum_bd hgr'.out n j
      by_cases hj : j < N
      · have hjI : (j : Int) < N := by omega
        have hjn : j ≤ n := by have := hN'.out; omega
        have hjN : j ≤ 7 := by omega
        obtain ⟨b7, f7, y, e7, hy, hcy⟩ := (hl3.out.below bj).cell (k := j) (by rw [Perms.twoC_len]; omega)
        cases e7
        obtain ⟨b8, f8, z, e8, hz, hcz⟩ := (hl3.out.below bj).cell (k := n - j) (by rw [Perms.twoC_len]; omega)
        cases e8
        obtain ⟨r, hr⟩ : ∃ r : Nat, r = n - j := ⟨_, rfl⟩
        have hrI : (n : Int) - (j : Int) = r := by omega
        have hrN : (r : Int) < N := by have := hN'.out; omega
        have hyv : y = Perms.conO g [(n : Int) - j, j] := by
          have h := hy.out
          rw [Perms.twoC_get (by omega)] at h
          exact (Option.some.inj h).symm
        have hzv : z = Perms.conO g [(n : Int) - j, j] := by
          have h := hz.out
          rw [Perms.twoC_get (by omega)] at h
          rw [← Option.some.inj h]
          exact (F.out.sym j hjn).symm
        have hpos := F.out.pos j hjn
        have hcb := Perms.conO_bd hgr'.out [(n : Int) - j, j]
        have hst : Perms.twoSum g n (j + 1) = Perms.twoSum g n j + Perms.conO g [(n : Int) - j, j] := rfl
        rw [← hr] at hcz
        obtain ⟨P, hP⟩ : ∃ P, P = Perms.conO g [(n : Int) - j, j] := ⟨_, rfl⟩
        rw [← hP] at hyv hzv hpos hcb hst
        subst hyv
        subst hzv
        have hst' := Lib.hid hst
        clear hst hP hr hy hz
        go_wp2_with fail
        go_roundg (gk - 1)
        case measure => omega
        case rel => exact ⟨j + 1, by go_num, by rw [hst'.out], bj, by omega, by omega⟩
      · have hjN : j = n + 1 := by have := hN'.out; omega
        have hjI : (N : Int) ≤ j := by omega
        have hj9 : (j : Int) ≤ 9 := by omega
        have hdA2 : decide (j < N) = false := decide_eq_false hj
        have hdA : decide ((j : Int) < (N : Int)) = false := decide_eq_false (by omega)
        have hg4 := Lib.hid (hg3.out.below bj)
        have bw4 := bw3.trans (bj.mono bw3.size)
        obtain ⟨wA, rfl⟩ : ∃ wA, wA = wr := ⟨_, rfl⟩
        obtain ⟨S, hS⟩ : ∃ S, S = Perms.twoSum g n j := ⟨_, rfl⟩
        have hsum2 : Hid (S = Perms.colO g 2) := Lib.hid (by rw [hS, hjN]; exact F.out.sum)
        rw [← hS]
        clear hS hsb hj hjN
        go_wp2_with fail
        go_loopg [9, 10] (n + 1) (fun gg u9 u10 w5 => ∃ (a : Nat), u10 = .int .i64 a ∧ u9 = .int .i64 (Perms.threeTo g n a) ∧ Below wA.heap.size wA w5 ∧ a + gg ≤ n + 1 ∧ n + 1 ≤ a + gg)
        case atStart => exact ⟨0, rfl, rfl, Below.refl _ _, by omega, by omega⟩
        case round =>
          obtain ⟨a, rfl, rfl, ba, ha1, ha2⟩ := hrel
          obtain ⟨w5, rfl⟩ : ∃ w5, w5 = wr := ⟨_, rfl⟩
          have htb := Perms.threeTo_bd hgr'.out hn6 a
          by_cases ha : a ≤ n
          · have haI : (a : Int) ≤ n := by omega
            obtain ⟨gi, hgi⟩ : ∃ g' : Nat, g' = gk := ⟨_, rfl⟩
            go_wp2_with fail
            go_loopg [9, 11] (n - a + 1) (fun gg u9 u11 w7 => ∃ (b : Nat), u11 = .int .i64 b ∧ u9 = .int .i64 (Perms.threeTo g n a + Perms.threeRow g n a b) ∧ Below wA.heap.size wA w7 ∧ b + gg ≤ n - a + 1 ∧ n - a + 1 ≤ b + gg)
            case atStart => exact ⟨0, rfl, by simp [Perms.threeRow, Perms.sumI], ba, by omega, by omega⟩
            case round =>
              obtain ⟨b, rfl, rfl, bb, hb1, hb2⟩ := hrel
              obtain ⟨w7, rfl⟩ : ∃ w7, w7 = wr := ⟨_, rfl⟩
              have hrb := Perms.threeRow_bd hgr'.out n a b
              by_cases hb : a + b ≤ n
              · have hbI : (a : Int) + b ≤ n := by omega
                have hb7 : b ≤ 7 := by omega
                have ha7 : a ≤ 7 := by omega
                have hlit := Lib.hid (OwnInts.at (ints_three w7 (a : Int) b ((n : Int) - a - b)))
                have bal := below_alloc w7 (.cells #[.int .i64 (a : Int), .int .i64 (b : Int), .int .i64 ((n : Int) - a - b)] 3)
                have bba := bb.trans (bal.mono bb.size)
                have hga := Lib.hid (hg4.out.below bba)
                obtain ⟨P, hP⟩ : ∃ P, P = Perms.conO g [(a : Int), b, (n : Int) - a - b] := ⟨_, rfl⟩
                have hP2 : Hid (Perms.conO g [(n : Int) - a - b, a, b] = P) := Lib.hid (by rw [hP]; exact (Perms.con_turn g (a : Int) b ((n : Int) - a - b)).symm)
                have hcb := Perms.conO_bd hgr'.out [(a : Int), b, (n : Int) - a - b]
                have hst := Perms.threeRow_step g n a b
                rw [← hP] at hst hcb
                have hP' := Lib.hid hP
                have hst' := Lib.hid hst
                clear hst hP
                go_wp2_with fail
                refine CountContents_i hga.out hlit.out ?_
                intro w8 b8
                rw [← hP'.out]
                have bb8 := bba.trans (b8.mono bba.size)
                have hlit2 := Lib.hid (OwnInts.at (ints_three w8 ((n : Int) - a - b) (a : Int) b))
                have bal2 := below_alloc w8 (.cells #[.int .i64 ((n : Int) - a - b), .int .i64 (a : Int), .int .i64 (b : Int)] 3)
                have bba2 := bb8.trans (bal2.mono bb8.size)
                have hga2 := Lib.hid (hg4.out.below bba2)
                go_wp2_with fail
                refine CountContents_i hga2.out hlit2.out ?_
                intro w9 b9
                rw [hP2.out]
                have bb9 := bba2.trans (b9.mono bba2.size)
                go_wp2_with fail
                go_roundg (gk - 1)
                case measure => omega
                case rel => exact ⟨b + 1, by go_num, by rw [hst'.out, Int.add_assoc], bb9, by omega, by omega⟩
              · have hbe : b = n - a + 1 := by omega
                have hbI : (n : Int) < (a : Int) + b := by omega
                have hst : Perms.threeTo g n a + Perms.threeRow g n a b = Perms.threeTo g n (a + 1) := by rw [hbe]; rfl
                rw [hst]
                have hb8 : b ≤ 8 := by omega
                have hdB2 : decide (a + b ≤ n) = false := decide_eq_false hb
                have hdB : decide ((a : Int) + b ≤ (n : Int)) = false := decide_eq_false (by omega)
                clear hst hbe hb
                go_wp2_with fail
                go_roundg (gi - 1)
                case measure => omega
                case rel => exact ⟨a + 1, by go_num, rfl, bb, by omega, by omega⟩
          · have hae : a = n + 1 := by omega
            have haI : (n : Int) < a := by omega
            have ha9 : (a : Int) ≤ 9 := by omega
            have hdC2 : decide (a ≤ n) = false := decide_eq_false ha
            have hdC : decide ((a : Int) ≤ (n : Int)) = false := decide_eq_false (by omega)
            have hg5 := Lib.hid (hg4.out.below ba)
            have bw5 := bw4.trans (ba.mono bw4.size)
            obtain ⟨S3, hS3⟩ : ∃ S3, S3 = Perms.threeTo g n a := ⟨_, rfl⟩
            have hthree : Hid (S3 = Perms.colO g 3) := Lib.hid (by rw [hS3, hae]; exact F.out.three)
            rw [← hS3]
            obtain ⟨q, hq⟩ : ∃ q : Nat, q + 1 = g.length := ⟨g.length - 1, by omega⟩
            have hqI : (g.length : Int) - 1 = q := by omega
            have hqg : (q : Int) < g.length := by omega
            obtain ⟨b7, f7, up, pp, e7, hp, hcp, hup⟩ := hg5.out.cell (k := q) (by omega)
            cases e7
            obtain ⟨ap, cp, rfl, _, _, _⟩ := hup.form
            have hup' := Lib.hid hup
            have hkept := Lib.hid (F.out.kept pp (List.mem_of_getElem? hp.out))
            have hG := Perms.grpB_grp hgr'.out
            have hpl : pp.length = n := by rw [hG.len pp (List.mem_of_getElem? hp.out)]; exact hn'.out
            rw [hpl] at hup' hcp
            clear hS3 htb ha hup hq hG hpl hae
            go_wp2_with fail
            go_loopg [14, 15] (n + 1) (fun gg u14 u15 w6 => ∃ (k : Nat), u15 = .int .i64 k ∧ u14 = .int .i64 (Perms.keptSum pp n k) ∧ Below w5.heap.size w5 w6 ∧ k + gg ≤ n + 1 ∧ n + 1 ≤ k + gg)
            case atStart => exact ⟨0, rfl, rfl, Below.refl _ _, by omega, by omega⟩
            case round =>
              obtain ⟨k, rfl, rfl, bk, hk1, hk2⟩ := hrel
              obtain ⟨w6, rfl⟩ : ∃ w6, w6 = wr := ⟨_, rfl⟩
              have hkb := Perms.keptSum_bd pp n k
              by_cases hk : k ≤ n
              · have hkI : (k : Int) ≤ n := by omega
                have hk7 : k ≤ 7 := by omega
                have hlit := Lib.hid (OwnInts.at (ints_two w6 ((n : Int) - k) k))
                have bal := below_alloc w6 (.cells #[.int .i64 ((n : Int) - k), .int .i64 (k : Int)] 3)
                have bba := bk.trans (bal.mono bk.size)
                have hpa := Lib.hid (hup'.out.below bba)
                obtain ⟨P, hP⟩ : ∃ P, P = Perms.fixO pp [(n : Int) - k, k] := ⟨_, rfl⟩
                have hcb := Perms.fixO_bd pp [(n : Int) - k, k]
                have hst : Perms.keptSum pp n (k + 1) = Perms.keptSum pp n k + Perms.fixO pp [(n : Int) - k, k] := rfl
                rw [← hP] at hst hcb
                have hP' := Lib.hid hP
                have hst' := Lib.hid hst
                clear hst hP
                go_wp2_with fail
                refine CountFixed_i hpa.out hlit.out ?_
                intro w8 b8
                rw [← hP'.out]
                have bb8 := bba.trans (b8.mono bba.size)
                go_wp2_with fail
                go_roundg (gk - 1)
                case measure => omega
                case rel => exact ⟨k + 1, by go_num, by rw [hst'.out], bb8, by omega, by omega⟩
              · have hke : k = n + 1 := by omega
                have hkI : (n : Int) < k := by omega
                have hk9 : (k : Int) ≤ 9 := by omega
                have hg6 := Lib.hid (hg5.out.below bk)
                have hp6 := Lib.hid (hup'.out.below bk)
                have bw6 := bw5.trans (bk.mono bw5.size)
                obtain ⟨K, hK⟩ : ∃ K, K = Perms.keptSum pp n k := ⟨_, rfl⟩
                have hK2 : Hid (K = ((2 ^ (Perms.cycles pp).length : Nat) : Int)) := Lib.hid (by rw [hK, hke]; exact hkept.out)
                rw [← hK]
                have hS2 : Hid (Perms.colO g 2 = S) := Lib.hid hsum2.out.symm
                have hS3' : Hid (Perms.colO g 3 = S3) := Lib.hid hthree.out.symm
                clear hK hkb hk hke
                go_wp2_with fail
                refine CountColorings_i hg6.out ?_
                intro w7 b7'
                rw [hS2.out]
                have hg7 := Lib.hid (hg6.out.below b7')
                have hp7 := Lib.hid (hp6.out.below b7')
                have bw7 := bw6.trans (b7'.mono bw6.size)
                go_wp2_with fail
                refine CountColorings_i hg7.out ?_
                intro w8 b8'
                rw [hS3'.out]
                have hp8 := Lib.hid (hp7.out.below b8')
                have bw8 := bw7.trans (b8'.mono bw7.size)
                obtain ⟨mm, hmm⟩ : ∃ mm, mm = (Perms.cycles pp).length := ⟨_, rfl⟩
                have hmb := Perms.cycles_len pp
                rw [← hmm] at hmb
                have hmm' := Lib.hid hmm
                have hp2 : 2 ^ mm ≤ 2 ^ 10 := Nat.pow_le_pow_right (by omega) hmb
                obtain ⟨pw, hpw⟩ : ∃ pw : Nat, pw = 2 ^ mm := ⟨_, rfl⟩
                have hpI : (2 : Int) ^ mm = (pw : Int) := by rw [hpw]; exact (Int.natCast_pow 2 mm).symm
                have hpw9 : pw ≤ 1024 := by rw [hpw]; exact hp2
                have hw2 : wrap64 ((2 : Int) ^ mm) = (2 : Int) ^ mm := IntWalk.wrap64_in _ (by rw [hpI]; omega)
                have hKb : (K == wrap64 ((2 : Int) ^ mm)) = true := by rw [hw2, hpI, hK2.out, ← hmm, ← hpw, beq_iff_eq]
                have hKb2 : (K == (2 : Int) ^ mm) = true := by rw [hpI, hK2.out, ← hmm, ← hpw, beq_iff_eq]
                clear hmm hp2 hpI hw2 hpw hpw9
                go_wp2_with (go_at_call 29; refine CountCycles_i hp8.out ?_; intro w9 b9'; rw [← hmm'.out]; have bw9 := bw8.trans (b9'.mono bw8.size))
                exact H.out _ bw9
end Go.Proofs.Ytdibmjijpdliaaa
