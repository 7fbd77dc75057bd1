/-
  The word of all words, and its windows. Finite checks.
-/
import Derived.Test.YtmlmpneikhdgcaaWall0
import Derived.Test.YtmlmpneikhdgcaaOrbit
set_option linter.unusedVariables false
namespace Go.Proofs.Ytmlmpneikhdgcaa.Words
set_option maxRecDepth 100000

def ext (l : List Int) (n : Nat) : List Int := (List.range (l.length + n)).map fun i => l.getD (i % l.length) 0
def code (k : Nat) (l : List Int) : Nat := l.foldl (fun a x => a * k + x.toNat) 0
def codes (k n : Nat) : Nat → List Int → List Nat
  | 0, _ => []
  | g + 1, xs => code k (xs.take n) :: codes k n g (xs.drop 1)
def apartB : Nat → List Nat → Bool
  | _, [] => true
  | s, c :: cs => !s.testBit c && apartB (s ||| 2 ^ c) cs
def winChk (n k : Nat) (l : List Int) : Bool := decide (l.length = k ^ n) && l.all (fun x => decide (0 ≤ x ∧ x < k)) && apartB 0 (codes k n l.length (ext l n))
theorem apartB_nodup : ∀ {cs : List Nat} {s : Nat}, apartB s cs = true → cs.Nodup ∧ ∀ c ∈ cs, s.testBit c = false
  | [], s, _ => ⟨List.nodup_nil, fun c h => by cases h⟩
  | c :: cs, s, h => by
    simp only [apartB, Bool.and_eq_true, Bool.not_eq_true'] at h
    obtain ⟨h1, h2⟩ := apartB_nodup h.2
    have h3 : ∀ d ∈ cs, s.testBit d = false ∧ c ≠ d := fun d hd => by
      have := h2 d hd
      rw [Nat.testBit_or, Nat.testBit_two_pow] at this
      simp only [Bool.or_eq_false_iff, decide_eq_false_iff_not] at this
      exact this
    refine ⟨List.nodup_cons.2 ⟨fun hm => (h3 c hm).2 rfl, h1⟩, fun d hd => ?_⟩
    rcases List.mem_cons.1 hd with rfl | hd
    · exact h.1
    · exact (h3 d hd).1
def win (l : List Int) (n i : Nat) : List Int := ((ext l n).drop i).take n
theorem codes_get {k n : Nat} : ∀ {g : Nat} {xs : List Int} {i : Nat}, i < g → (codes k n g xs)[i]? = some (code k ((xs.drop i).take n))
  | g + 1, xs, 0, _ => by simp [codes]
  | g + 1, xs, i + 1, h => by
    simp only [codes, List.getElem?_cons_succ]
    rw [codes_get (by omega), List.drop_drop, Nat.add_comm]
theorem ext_len (l : List Int) (n : Nat) : (ext l n).length = l.length + n := by simp [ext]
theorem win_get {l : List Int} {n i m : Nat} (hi : i < l.length) (hm : m < n) : (win l n i)[m]? = l[(i + m) % l.length]? := by
  have h1 : (i + m) % l.length < l.length := Nat.mod_lt _ (by omega)
  unfold win ext
  rw [List.getElem?_take, if_pos hm, List.getElem?_drop, List.getElem?_map, List.getElem?_range (by omega)]
  simp [List.getD, List.getElem?_eq_getElem h1]
theorem win_len {l : List Int} {n i : Nat} (hi : i < l.length) : (win l n i).length = n := by
  unfold win
  rw [List.length_take, List.length_drop, ext_len]
  omega
structure Windows (n k : Nat) (l : List Int) : Prop where
  len : l.length = k ^ n
  rng : ∀ x ∈ l, 0 ≤ x ∧ x < k
  inj : ∀ i j, i < l.length → j < l.length → win l n i = win l n j → i = j
  sur : ∀ w : List Int, w.length = n → (∀ x ∈ w, 0 ≤ x ∧ x < k) → ∃ i, i < l.length ∧ win l n i = w
theorem winChk_ok {n k : Nat} {l : List Int} (h : winChk n k l = true) : Windows n k l := by
  unfold winChk at h
  simp only [Bool.and_eq_true, decide_eq_true_eq, List.all_eq_true] at h
  obtain ⟨⟨h1, h2⟩, h3⟩ := h
  have hn := (apartB_nodup h3).1
  have hinj : ∀ i j, i < l.length → j < l.length → win l n i = win l n j → i = j := fun i j hi hj e => by
    have a := codes_get (k := k) (n := n) (xs := ext l n) hi
    have b := codes_get (k := k) (n := n) (xs := ext l n) hj
    unfold win at e
    rw [e] at a
    exact Perms.nodup_inj hn a b
  refine ⟨h1, h2, hinj, fun w hw hr => ?_⟩
  have hnd : ((List.range l.length).map (win l n)).Nodup := Perms.nodup_map_on List.nodup_range fun i hi j hj e => hinj i j (List.mem_range.1 hi) (List.mem_range.1 hj) e
  have hsub : ∀ x ∈ (List.range l.length).map (win l n), x ∈ Perms.wordsN k n := fun x hx => by
    obtain ⟨i, hi, rfl⟩ := List.mem_map.1 hx
    have hi := List.mem_range.1 hi
    refine Perms.wordsN_mem.2 ⟨win_len hi, fun c hc => ?_⟩
    obtain ⟨m, hm⟩ := List.getElem?_of_mem hc
    have hml := (List.getElem?_eq_some_iff.1 hm).1
    rw [win_len hi] at hml
    rw [win_get hi hml] at hm
    exact h2 c (List.mem_of_getElem? hm)
  have := Perms.subset_back hnd hsub (by rw [List.length_map, List.length_range, h1, Perms.wordsN_len]; omega) w (Perms.wordsN_mem.2 ⟨hw, hr⟩)
  obtain ⟨i, hi, e⟩ := List.mem_map.1 this
  exact ⟨i, List.mem_range.1 hi, e⟩
theorem matchTo_iff {xs ys : List Int} {j : Nat} : ∀ {m : Nat}, matchTo xs ys j m = true ↔ ∀ t, t < m → xs[(j + t) % xs.length]? = ys[t]?
  | 0 => by simp [matchTo]
  | m + 1 => by
    simp only [matchTo, Bool.and_eq_true, beq_iff_eq]
    rw [matchTo_iff]
    constructor
    · rintro ⟨h1, h2⟩ t ht
      by_cases e : t < m
      · exact h1 t e
      · obtain rfl : t = m := by omega
        exact h2
    · intro h
      exact ⟨fun t ht => h t (by omega), h m (by omega)⟩
theorem match_win {l w : List Int} {i : Nat} (hi : i < l.length) : matchTo l w i w.length = true ↔ win l w.length i = w := by
  rw [matchTo_iff]
  constructor
  · intro h
    apply List.ext_getElem?
    intro m
    by_cases hm : m < w.length
    · rw [win_get hi hm, h m hm]
    · rw [List.getElem?_eq_none (by rw [win_len hi]; omega), List.getElem?_eq_none (by omega)]
  · intro h t ht
    rw [← win_get hi ht, h]
theorem plc_at {xs ys : List Int} {i : Nat} (hm : matchTo xs ys i ys.length = true) (hu : ∀ j, j < i → matchTo xs ys j ys.length = false) : ∀ {g j : Nat}, j ≤ i → i < j + g → plcFrom xs ys g j = i
  | 0, j, h1, h2 => by omega
  | g + 1, j, h1, h2 => by
    unfold plcFrom
    by_cases e : j = i
    · subst e
      rw [if_pos hm]
    · rw [if_neg (by rw [hu j (by omega)]; decide)]
      exact plc_at hm hu (by omega) (by omega)
structure AllFacts (l w : List Int) (i : Nat) : Prop where
  lt : i < l.length
  plc : placeOf l w = i
  mt : ∀ j, j < l.length → matchTo l w j w.length = decide (j = i)
theorem Windows.at {n k : Nat} {l : List Int} (h : Windows n k l) (hn : 1 ≤ n) {w : List Int} (hw : w.length = n) (hr : ∀ x ∈ w, 0 ≤ x ∧ x < k) : ∃ i, AllFacts l w i := by
  obtain ⟨i, hi, e⟩ := h.sur w hw hr
  have hmt : ∀ j, j < l.length → matchTo l w j w.length = decide (j = i) := fun j hj => by
    rw [Bool.eq_iff_iff, match_win hj, hw, decide_eq_true_eq]
    constructor
    · intro e2
      exact h.inj j i hj hi (e2.trans e.symm)
    · rintro rfl; exact e
  refine ⟨i, hi, ?_, hmt⟩
  unfold placeOf
  rw [if_neg (by omega)]
  refine plc_at (by rw [hmt i hi]; simp) (fun j hj => ?_) (Nat.zero_le _) (by omega)
  rw [hmt j (by omega)]
  simp; omega
theorem wall_1_1 : wallW 1 1 = [0] ∧ smallN 1 1 = true ∧ winChk 1 1 [0] = true := by decide +kernel
theorem wall_1_2 : wallW 1 2 = [0, 1] ∧ smallN 1 2 = true ∧ winChk 1 2 [0, 1] = true := by decide +kernel
theorem wall_1_3 : wallW 1 3 = [0, 1, 2] ∧ smallN 1 3 = true ∧ winChk 1 3 [0, 1, 2] = true := by decide +kernel
theorem wall_2_1 : wallW 2 1 = [0] ∧ smallN 2 1 = true ∧ winChk 2 1 [0] = true := by decide +kernel
theorem wall_2_2 : wallW 2 2 = [0, 0, 1, 1] ∧ smallN 2 2 = true ∧ winChk 2 2 [0, 0, 1, 1] = true := by decide +kernel
theorem wall_2_3 : wallW 2 3 = [0, 0, 1, 0, 2, 1, 1, 2, 2] ∧ smallN 2 3 = true ∧ winChk 2 3 [0, 0, 1, 0, 2, 1, 1, 2, 2] = true := by decide +kernel
theorem wall_3_1 : wallW 3 1 = [0] ∧ smallN 3 1 = true ∧ winChk 3 1 [0] = true := by decide +kernel
theorem wall_3_2 : wallW 3 2 = [0, 0, 0, 1, 0, 1, 1, 1] ∧ smallN 3 2 = true ∧ winChk 3 2 [0, 0, 0, 1, 0, 1, 1, 1] = true := by decide +kernel
theorem wall_3_3 : wallW 3 3 = [0, 0, 0, 1, 0, 0, 2, 0, 1, 1, 0, 1, 2, 0, 2, 1, 0, 2, 2, 1, 1, 1, 2, 1, 2, 2, 2] ∧ smallN 3 3 = true ∧ winChk 3 3 [0, 0, 0, 1, 0, 0, 2, 0, 1, 1, 0, 1, 2, 0, 2, 1, 0, 2, 2, 1, 1, 1, 2, 1, 2, 2, 2] = true := by decide +kernel
theorem wall_4_1 : wallW 4 1 = [0] ∧ smallN 4 1 = true ∧ winChk 4 1 [0] = true := by decide +kernel
theorem wall_4_2 : wallW 4 2 = [0, 0, 0, 0, 1, 0, 0, 1, 1, 0, 1, 0, 1, 1, 1, 1] ∧ smallN 4 2 = true ∧ winChk 4 2 [0, 0, 0, 0, 1, 0, 0, 1, 1, 0, 1, 0, 1, 1, 1, 1] = true := by decide +kernel
theorem wall_4_3 : wallW 4 3 = [0, 0, 0, 0, 1, 0, 0, 0, 2, 0, 0, 1, 1, 0, 0, 1, 2, 0, 0, 2, 1, 0, 0, 2, 2, 0, 1, 0, 1, 0, 2, 0, 1, 1, 1, 0, 1, 1, 2, 0, 1, 2, 1, 0, 1, 2, 2, 0, 2, 0, 2, 1, 1, 0, 2, 1, 2, 0, 2, 2, 1, 0, 2, 2, 2, 1, 1, 1, 1, 2, 1, 1, 2, 2, 1, 2, 1, 2, 2, 2, 2] ∧ smallN 4 3 = true ∧ winChk 4 3 [0, 0, 0, 0, 1, 0, 0, 0, 2, 0, 0, 1, 1, 0, 0, 1, 2, 0, 0, 2, 1, 0, 0, 2, 2, 0, 1, 0, 1, 0, 2, 0, 1, 1, 1, 0, 1, 1, 2, 0, 1, 2, 1, 0, 1, 2, 2, 0, 2, 0, 2, 1, 1, 0, 2, 1, 2, 0, 2, 2, 1, 0, 2, 2, 2, 1, 1, 1, 1, 2, 1, 1, 2, 2, 1, 2, 1, 2, 2, 2, 2] = true := by decide +kernel
theorem wall_5_1 : wallW 5 1 = [0] ∧ smallN 5 1 = true ∧ winChk 5 1 [0] = true := by decide +kernel
theorem wall_5_2 : wallW 5 2 = [0, 0, 0, 0, 0, 1, 0, 0, 0, 1, 1, 0, 0, 1, 0, 1, 0, 0, 1, 1, 1, 0, 1, 0, 1, 1, 0, 1, 1, 1, 1, 1] ∧ smallN 5 2 = true ∧ winChk 5 2 [0, 0, 0, 0, 0, 1, 0, 0, 0, 1, 1, 0, 0, 1, 0, 1, 0, 0, 1, 1, 1, 0, 1, 0, 1, 1, 0, 1, 1, 1, 1, 1] = true := by decide +kernel
theorem wall_5_3 : wallW 5 3 = [0, 0, 0, 0, 0, 1, 0, 0, 0, 0, 2, 0, 0, 0, 1, 1, 0, 0, 0, 1, 2, 0, 0, 0, 2, 1, 0, 0, 0, 2, 2, 0, 0, 1, 0, 1, 0, 0, 1, 0, 2, 0, 0, 1, 1, 1, 0, 0, 1, 1, 2, 0, 0, 1, 2, 1, 0, 0, 1, 2, 2, 0, 0, 2, 0, 1, 0, 0, 2, 0, 2, 0, 0, 2, 1, 1, 0, 0, 2, 1, 2, 0, 0, 2, 2, 1, 0, 0, 2, 2, 2, 0, 1, 0, 1, 1, 0, 1, 0, 1, 2, 0, 1, 0, 2, 1, 0, 1, 0, 2, 2, 0, 1, 1, 0, 2, 0, 1, 1, 1, 1, 0, 1, 1, 1, 2, 0, 1, 1, 2, 1, 0, 1, 1, 2, 2, 0, 1, 2, 0, 2, 0, 1, 2, 1, 1, 0, 1, 2, 1, 2, 0, 1, 2, 2, 1, 0, 1, 2, 2, 2, 0, 2, 0, 2, 1, 0, 2, 0, 2, 2, 0, 2, 1, 1, 1, 0, 2, 1, 1, 2, 0, 2, 1, 2, 1, 0, 2, 1, 2, 2, 0, 2, 2, 1, 1, 0, 2, 2, 1, 2, 0, 2, 2, 2, 1, 0, 2, 2, 2, 2, 1, 1, 1, 1, 1, 2, 1, 1, 1, 2, 2, 1, 1, 2, 1, 2, 1, 1, 2, 2, 2, 1, 2, 1, 2, 2, 1, 2, 2, 2, 2, 2] ∧ smallN 5 3 = true ∧ winChk 5 3 [0, 0, 0, 0, 0, 1, 0, 0, 0, 0, 2, 0, 0, 0, 1, 1, 0, 0, 0, 1, 2, 0, 0, 0, 2, 1, 0, 0, 0, 2, 2, 0, 0, 1, 0, 1, 0, 0, 1, 0, 2, 0, 0, 1, 1, 1, 0, 0, 1, 1, 2, 0, 0, 1, 2, 1, 0, 0, 1, 2, 2, 0, 0, 2, 0, 1, 0, 0, 2, 0, 2, 0, 0, 2, 1, 1, 0, 0, 2, 1, 2, 0, 0, 2, 2, 1, 0, 0, 2, 2, 2, 0, 1, 0, 1, 1, 0, 1, 0, 1, 2, 0, 1, 0, 2, 1, 0, 1, 0, 2, 2, 0, 1, 1, 0, 2, 0, 1, 1, 1, 1, 0, 1, 1, 1, 2, 0, 1, 1, 2, 1, 0, 1, 1, 2, 2, 0, 1, 2, 0, 2, 0, 1, 2, 1, 1, 0, 1, 2, 1, 2, 0, 1, 2, 2, 1, 0, 1, 2, 2, 2, 0, 2, 0, 2, 1, 0, 2, 0, 2, 2, 0, 2, 1, 1, 1, 0, 2, 1, 1, 2, 0, 2, 1, 2, 1, 0, 2, 1, 2, 2, 0, 2, 2, 1, 1, 0, 2, 2, 1, 2, 0, 2, 2, 2, 1, 0, 2, 2, 2, 2, 1, 1, 1, 1, 1, 2, 1, 1, 1, 2, 2, 1, 1, 2, 1, 2, 1, 1, 2, 2, 2, 1, 2, 1, 2, 2, 1, 2, 2, 2, 2, 2] = true := by decide +kernel
theorem wall_6_1 : wallW 6 1 = [0] ∧ smallN 6 1 = true ∧ winChk 6 1 [0] = true := by decide +kernel
theorem wall_6_2 : wallW 6 2 = [0, 0, 0, 0, 0, 0, 1, 0, 0, 0, 0, 1, 1, 0, 0, 0, 1, 0, 1, 0, 0, 0, 1, 1, 1, 0, 0, 1, 0, 0, 1, 0, 1, 1, 0, 0, 1, 1, 0, 1, 0, 0, 1, 1, 1, 1, 0, 1, 0, 1, 0, 1, 1, 1, 0, 1, 1, 0, 1, 1, 1, 1, 1, 1] ∧ smallN 6 2 = true ∧ winChk 6 2 [0, 0, 0, 0, 0, 0, 1, 0, 0, 0, 0, 1, 1, 0, 0, 0, 1, 0, 1, 0, 0, 0, 1, 1, 1, 0, 0, 1, 0, 0, 1, 0, 1, 1, 0, 0, 1, 1, 0, 1, 0, 0, 1, 1, 1, 1, 0, 1, 0, 1, 0, 1, 1, 1, 0, 1, 1, 0, 1, 1, 1, 1, 1, 1] = true := by decide +kernel
theorem wall_6_3 : wallW 6 3 = [0, 0, 0, 0, 0, 0, 1, 0, 0, 0, 0, 0, 2, 0, 0, 0, 0, 1, 1, 0, 0, 0, 0, 1, 2, 0, 0, 0, 0, 2, 1, 0, 0, 0, 0, 2, 2, 0, 0, 0, 1, 0, 1, 0, 0, 0, 1, 0, 2, 0, 0, 0, 1, 1, 1, 0, 0, 0, 1, 1, 2, 0, 0, 0, 1, 2, 1, 0, 0, 0, 1, 2, 2, 0, 0, 0, 2, 0, 1, 0, 0, 0, 2, 0, 2, 0, 0, 0, 2, 1, 1, 0, 0, 0, 2, 1, 2, 0, 0, 0, 2, 2, 1, 0, 0, 0, 2, 2, 2, 0, 0, 1, 0, 0, 1, 0, 0, 2, 0, 0, 1, 0, 1, 1, 0, 0, 1, 0, 1, 2, 0, 0, 1, 0, 2, 1, 0, 0, 1, 0, 2, 2, 0, 0, 1, 1, 0, 1, 0, 0, 1, 1, 0, 2, 0, 0, 1, 1, 1, 1, 0, 0, 1, 1, 1, 2, 0, 0, 1, 1, 2, 1, 0, 0, 1, 1, 2, 2, 0, 0, 1, 2, 0, 1, 0, 0, 1, 2, 0, 2, 0, 0, 1, 2, 1, 1, 0, 0, 1, 2, 1, 2, 0, 0, 1, 2, 2, 1, 0, 0, 1, 2, 2, 2, 0, 0, 2, 0, 0, 2, 0, 1, 1, 0, 0, 2, 0, 1, 2, 0, 0, 2, 0, 2, 1, 0, 0, 2, 0, 2, 2, 0, 0, 2, 1, 0, 1, 0, 0, 2, 1, 0, 2, 0, 0, 2, 1, 1, 1, 0, 0, 2, 1, 1, 2, 0, 0, 2, 1, 2, 1, 0, 0, 2, 1, 2, 2, 0, 0, 2, 2, 0, 1, 0, 0, 2, 2, 0, 2, 0, 0, 2, 2, 1, 1, 0, 0, 2, 2, 1, 2, 0, 0, 2, 2, 2, 1, 0, 0, 2, 2, 2, 2, 0, 1, 0, 1, 0, 1, 0, 2, 0, 1, 0, 1, 1, 1, 0, 1, 0, 1, 1, 2, 0, 1, 0, 1, 2, 1, 0, 1, 0, 1, 2, 2, 0, 1, 0, 2, 0, 2, 0, 1, 0, 2, 1, 1, 0, 1, 0, 2, 1, 2, 0, 1, 0, 2, 2, 1, 0, 1, 0, 2, 2, 2, 0, 1, 1, 0, 1, 1, 0, 1, 2, 0, 1, 1, 0, 2, 1, 0, 1, 1, 0, 2, 2, 0, 1, 1, 1, 0, 2, 0, 1, 1, 1, 1, 1, 0, 1, 1, 1, 1, 2, 0, 1, 1, 1, 2, 1, 0, 1, 1, 1, 2, 2, 0, 1, 1, 2, 0, 2, 0, 1, 1, 2, 1, 1, 0, 1, 1, 2, 1, 2, 0, 1, 1, 2, 2, 1, 0, 1, 1, 2, 2, 2, 0, 1, 2, 0, 1, 2, 0, 2, 1, 0, 1, 2, 0, 2, 2, 0, 1, 2, 1, 0, 2, 0, 1, 2, 1, 1, 1, 0, 1, 2, 1, 1, 2, 0, 1, 2, 1, 2, 1, 0, 1, 2, 1, 2, 2, 0, 1, 2, 2, 0, 2, 0, 1, 2, 2, 1, 1, 0, 1, 2, 2, 1, 2, 0, 1, 2, 2, 2, 1, 0, 1, 2, 2, 2, 2, 0, 2, 0, 2, 0, 2, 1, 1, 0, 2, 0, 2, 1, 2, 0, 2, 0, 2, 2, 1, 0, 2, 0, 2, 2, 2, 0, 2, 1, 0, 2, 1, 0, 2, 2, 0, 2, 1, 1, 1, 1, 0, 2, 1, 1, 1, 2, 0, 2, 1, 1, 2, 1, 0, 2, 1, 1, 2, 2, 0, 2, 1, 2, 1, 1, 0, 2, 1, 2, 1, 2, 0, 2, 1, 2, 2, 1, 0, 2, 1, 2, 2, 2, 0, 2, 2, 0, 2, 2, 1, 1, 1, 0, 2, 2, 1, 1, 2, 0, 2, 2, 1, 2, 1, 0, 2, 2, 1, 2, 2, 0, 2, 2, 2, 1, 1, 0, 2, 2, 2, 1, 2, 0, 2, 2, 2, 2, 1, 0, 2, 2, 2, 2, 2, 1, 1, 1, 1, 1, 1, 2, 1, 1, 1, 1, 2, 2, 1, 1, 1, 2, 1, 2, 1, 1, 1, 2, 2, 2, 1, 1, 2, 1, 1, 2, 1, 2, 2, 1, 1, 2, 2, 1, 2, 1, 1, 2, 2, 2, 2, 1, 2, 1, 2, 1, 2, 2, 2, 1, 2, 2, 1, 2, 2, 2, 2, 2, 2] ∧ smallN 6 3 = true ∧ winChk 6 3 [0, 0, 0, 0, 0, 0, 1, 0, 0, 0, 0, 0, 2, 0, 0, 0, 0, 1, 1, 0, 0, 0, 0, 1, 2, 0, 0, 0, 0, 2, 1, 0, 0, 0, 0, 2, 2, 0, 0, 0, 1, 0, 1, 0, 0, 0, 1, 0, 2, 0, 0, 0, 1, 1, 1, 0, 0, 0, 1, 1, 2, 0, 0, 0, 1, 2, 1, 0, 0, 0, 1, 2, 2, 0, 0, 0, 2, 0, 1, 0, 0, 0, 2, 0, 2, 0, 0, 0, 2, 1, 1, 0, 0, 0, 2, 1, 2, 0, 0, 0, 2, 2, 1, 0, 0, 0, 2, 2, 2, 0, 0, 1, 0, 0, 1, 0, 0, 2, 0, 0, 1, 0, 1, 1, 0, 0, 1, 0, 1, 2, 0, 0, 1, 0, 2, 1, 0, 0, 1, 0, 2, 2, 0, 0, 1, 1, 0, 1, 0, 0, 1, 1, 0, 2, 0, 0, 1, 1, 1, 1, 0, 0, 1, 1, 1, 2, 0, 0, 1, 1, 2, 1, 0, 0, 1, 1, 2, 2, 0, 0, 1, 2, 0, 1, 0, 0, 1, 2, 0, 2, 0, 0, 1, 2, 1, 1, 0, 0, 1, 2, 1, 2, 0, 0, 1, 2, 2, 1, 0, 0, 1, 2, 2, 2, 0, 0, 2, 0, 0, 2, 0, 1, 1, 0, 0, 2, 0, 1, 2, 0, 0, 2, 0, 2, 1, 0, 0, 2, 0, 2, 2, 0, 0, 2, 1, 0, 1, 0, 0, 2, 1, 0, 2, 0, 0, 2, 1, 1, 1, 0, 0, 2, 1, 1, 2, 0, 0, 2, 1, 2, 1, 0, 0, 2, 1, 2, 2, 0, 0, 2, 2, 0, 1, 0, 0, 2, 2, 0, 2, 0, 0, 2, 2, 1, 1, 0, 0, 2, 2, 1, 2, 0, 0, 2, 2, 2, 1, 0, 0, 2, 2, 2, 2, 0, 1, 0, 1, 0, 1, 0, 2, 0, 1, 0, 1, 1, 1, 0, 1, 0, 1, 1, 2, 0, 1, 0, 1, 2, 1, 0, 1, 0, 1, 2, 2, 0, 1, 0, 2, 0, 2, 0, 1, 0, 2, 1, 1, 0, 1, 0, 2, 1, 2, 0, 1, 0, 2, 2, 1, 0, 1, 0, 2, 2, 2, 0, 1, 1, 0, 1, 1, 0, 1, 2, 0, 1, 1, 0, 2, 1, 0, 1, 1, 0, 2, 2, 0, 1, 1, 1, 0, 2, 0, 1, 1, 1, 1, 1, 0, 1, 1, 1, 1, 2, 0, 1, 1, 1, 2, 1, 0, 1, 1, 1, 2, 2, 0, 1, 1, 2, 0, 2, 0, 1, 1, 2, 1, 1, 0, 1, 1, 2, 1, 2, 0, 1, 1, 2, 2, 1, 0, 1, 1, 2, 2, 2, 0, 1, 2, 0, 1, 2, 0, 2, 1, 0, 1, 2, 0, 2, 2, 0, 1, 2, 1, 0, 2, 0, 1, 2, 1, 1, 1, 0, 1, 2, 1, 1, 2, 0, 1, 2, 1, 2, 1, 0, 1, 2, 1, 2, 2, 0, 1, 2, 2, 0, 2, 0, 1, 2, 2, 1, 1, 0, 1, 2, 2, 1, 2, 0, 1, 2, 2, 2, 1, 0, 1, 2, 2, 2, 2, 0, 2, 0, 2, 0, 2, 1, 1, 0, 2, 0, 2, 1, 2, 0, 2, 0, 2, 2, 1, 0, 2, 0, 2, 2, 2, 0, 2, 1, 0, 2, 1, 0, 2, 2, 0, 2, 1, 1, 1, 1, 0, 2, 1, 1, 1, 2, 0, 2, 1, 1, 2, 1, 0, 2, 1, 1, 2, 2, 0, 2, 1, 2, 1, 1, 0, 2, 1, 2, 1, 2, 0, 2, 1, 2, 2, 1, 0, 2, 1, 2, 2, 2, 0, 2, 2, 0, 2, 2, 1, 1, 1, 0, 2, 2, 1, 1, 2, 0, 2, 2, 1, 2, 1, 0, 2, 2, 1, 2, 2, 0, 2, 2, 2, 1, 1, 0, 2, 2, 2, 1, 2, 0, 2, 2, 2, 2, 1, 0, 2, 2, 2, 2, 2, 1, 1, 1, 1, 1, 1, 2, 1, 1, 1, 1, 2, 2, 1, 1, 1, 2, 1, 2, 1, 1, 1, 2, 2, 2, 1, 1, 2, 1, 1, 2, 1, 2, 2, 1, 1, 2, 2, 1, 2, 1, 1, 2, 2, 2, 2, 1, 2, 1, 2, 1, 2, 2, 2, 1, 2, 2, 1, 2, 2, 2, 2, 2, 2] = true := by decide +kernel
theorem wall_ok {n k : Nat} (h1 : 1 ≤ n) (h2 : n ≤ 6) (h3 : 1 ≤ k) (h4 : k ≤ 3) : smallN n k = true ∧ Windows n k (wallW n k) := by
  obtain rfl | rfl | rfl | rfl | rfl | rfl : n = 1 ∨ n = 2 ∨ n = 3 ∨ n = 4 ∨ n = 5 ∨ n = 6 := by omega
  · obtain rfl | rfl | rfl : k = 1 ∨ k = 2 ∨ k = 3 := by omega
    · have h := wall_1_1
      exact ⟨h.2.1, by rw [show wallW (((1 : Nat)) : Int) (((1 : Nat)) : Int) = wallW 1 1 from rfl, h.1]; exact winChk_ok h.2.2⟩
    · have h := wall_1_2
      exact ⟨h.2.1, by rw [show wallW (((1 : Nat)) : Int) (((2 : Nat)) : Int) = wallW 1 2 from rfl, h.1]; exact winChk_ok h.2.2⟩
    · have h := wall_1_3
      exact ⟨h.2.1, by rw [show wallW (((1 : Nat)) : Int) (((3 : Nat)) : Int) = wallW 1 3 from rfl, h.1]; exact winChk_ok h.2.2⟩
  · obtain rfl | rfl | rfl : k = 1 ∨ k = 2 ∨ k = 3 := by omega
    · have h := wall_2_1
      exact ⟨h.2.1, by rw [show wallW (((2 : Nat)) : Int) (((1 : Nat)) : Int) = wallW 2 1 from rfl, h.1]; exact winChk_ok h.2.2⟩
    · have h := wall_2_2
      exact ⟨h.2.1, by rw [show wallW (((2 : Nat)) : Int) (((2 : Nat)) : Int) = wallW 2 2 from rfl, h.1]; exact winChk_ok h.2.2⟩
    · have h := wall_2_3
      exact ⟨h.2.1, by rw [show wallW (((2 : Nat)) : Int) (((3 : Nat)) : Int) = wallW 2 3 from rfl, h.1]; exact winChk_ok h.2.2⟩
  · obtain rfl | rfl | rfl : k = 1 ∨ k = 2 ∨ k = 3 := by omega
    · have h := wall_3_1
      exact ⟨h.2.1, by rw [show wallW (((3 : Nat)) : Int) (((1 : Nat)) : Int) = wallW 3 1 from rfl, h.1]; exact winChk_ok h.2.2⟩
    · have h := wall_3_2
      exact ⟨h.2.1, by rw [show wallW (((3 : Nat)) : Int) (((2 : Nat)) : Int) = wallW 3 2 from rfl, h.1]; exact winChk_ok h.2.2⟩
    · have h := wall_3_3
      exact ⟨h.2.1, by rw [show wallW (((3 : Nat)) : Int) (((3 : Nat)) : Int) = wallW 3 3 from rfl, h.1]; exact winChk_ok h.2.2⟩
  · obtain rfl | rfl | rfl : k = 1 ∨ k = 2 ∨ k = 3 := by omega
    · have h := wall_4_1
      exact ⟨h.2.1, by rw [show wallW (((4 : Nat)) : Int) (((1 : Nat)) : Int) = wallW 4 1 from rfl, h.1]; exact winChk_ok h.2.2⟩
    · have h := wall_4_2
      exact ⟨h.2.1, by rw [show wallW (((4 : Nat)) : Int) (((2 : Nat)) : Int) = wallW 4 2 from rfl, h.1]; exact winChk_ok h.2.2⟩
    · have h := wall_4_3
      exact ⟨h.2.1, by rw [show wallW (((4 : Nat)) : Int) (((3 : Nat)) : Int) = wallW 4 3 from rfl, h.1]; exact winChk_ok h.2.2⟩
  · obtain rfl | rfl | rfl : k = 1 ∨ k = 2 ∨ k = 3 := by omega
    · have h := wall_5_1
      exact ⟨h.2.1, by rw [show wallW (((5 : Nat)) : Int) (((1 : Nat)) : Int) = wallW 5 1 from rfl, h.1]; exact winChk_ok h.2.2⟩
    · have h := wall_5_2
      exact ⟨h.2.1, by rw [show wallW (((5 : Nat)) : Int) (((2 : Nat)) : Int) = wallW 5 2 from rfl, h.1]; exact winChk_ok h.2.2⟩
    · have h := wall_5_3
      exact ⟨h.2.1, by rw [show wallW (((5 : Nat)) : Int) (((3 : Nat)) : Int) = wallW 5 3 from rfl, h.1]; exact winChk_ok h.2.2⟩
  · obtain rfl | rfl | rfl : k = 1 ∨ k = 2 ∨ k = 3 := by omega
    · have h := wall_6_1
      exact ⟨h.2.1, by rw [show wallW (((6 : Nat)) : Int) (((1 : Nat)) : Int) = wallW 6 1 from rfl, h.1]; exact winChk_ok h.2.2⟩
    · have h := wall_6_2
      exact ⟨h.2.1, by rw [show wallW (((6 : Nat)) : Int) (((2 : Nat)) : Int) = wallW 6 2 from rfl, h.1]; exact winChk_ok h.2.2⟩
    · have h := wall_6_3
      exact ⟨h.2.1, by rw [show wallW (((6 : Nat)) : Int) (((3 : Nat)) : Int) = wallW 6 3 from rfl, h.1]; exact winChk_ok h.2.2⟩
end Go.Proofs.Ytmlmpneikhdgcaa.Words
