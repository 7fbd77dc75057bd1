/-
  All words of some letters in order, the next one, the patterns among them.
-/
import Derived.Test.YtdjdagcgodpgdaaGreatOrbit
import Derived.Test.YtdjdagcgodpgdaaGreatNums
set_option linter.unusedVariables false
namespace Go.Proofs.YtdjdagcgodpgdaaGreat.Perms

def stepW (k : Nat) (ws : List (List Int)) : List (List Int) := ws.flatMap fun w => (List.range k).map fun (x : Nat) => w ++ [(x : Int)]
def wordsN (k : Nat) : Nat → List (List Int)
  | 0 => [[]]
  | n + 1 => stepW k (wordsN k n)
theorem stepW_cons (k : Nat) (w : List Int) (ws : List (List Int)) : stepW k (w :: ws) = ((List.range k).map fun (x : Nat) => w ++ [(x : Int)]) ++ stepW k ws := by simp [stepW]
theorem stepW_append (k : Nat) (a b : List (List Int)) : stepW k (a ++ b) = stepW k a ++ stepW k b := by simp [stepW]
theorem stepW_len (k : Nat) : ∀ ws : List (List Int), (stepW k ws).length = ws.length * k
  | [] => by simp [stepW]
  | w :: ws => by rw [stepW_cons, List.length_append, stepW_len k ws]; simp [Nat.succ_mul, Nat.add_comm]
theorem stepW_get {k : Nat} : ∀ {ws : List (List Int)} {i x : Nat}, x < k → (stepW k ws)[i * k + x]? = ws[i]?.map (fun w => w ++ [(x : Int)])
  | [], i, x, hx => by simp [stepW]
  | w :: ws, 0, x, hx => by
    rw [stepW_cons, Nat.zero_mul, Nat.zero_add, List.getElem?_append_left (by simpa using hx)]
    simp [hx]
  | w :: ws, i + 1, x, hx => by
    rw [stepW_cons, List.getElem?_append_right (by simp [Nat.succ_mul]; omega), List.length_map, List.length_range, show (i + 1) * k + x - k = i * k + x from by rw [Nat.succ_mul]; omega, stepW_get hx]
    simp
theorem wordsN_len (k : Nat) : ∀ n, (wordsN k n).length = k ^ n
  | 0 => rfl
  | n + 1 => by rw [wordsN, stepW_len, wordsN_len k n, Nat.pow_succ]
theorem wordsN_mem {k : Nat} : ∀ {n : Nat} {w : List Int}, w ∈ wordsN k n ↔ w.length = n ∧ ∀ x ∈ w, 0 ≤ x ∧ x < k
  | 0, w => by
    simp only [wordsN, List.mem_singleton]
    constructor
    · rintro rfl; simp
    · rintro ⟨h, _⟩; exact List.length_eq_zero_iff.1 h
  | n + 1, w => by
    simp only [wordsN, stepW, List.mem_flatMap, List.mem_map, List.mem_range]
    constructor
    · rintro ⟨u, hu, x, hx, rfl⟩
      obtain ⟨h1, h2⟩ := wordsN_mem.1 hu
      refine ⟨by simp [h1], fun y hy => ?_⟩
      rcases List.mem_append.1 hy with h | h
      · exact h2 y h
      · simp at h; omega
    · rintro ⟨h1, h2⟩
      obtain ⟨u, x, rfl⟩ : ∃ u x, w = u ++ [x] := ⟨w.dropLast, w.getLast (by intro e; simp [e] at h1), (List.dropLast_concat_getLast _).symm⟩
      have hx := h2 x (by simp)
      refine ⟨u, wordsN_mem.2 ⟨by simpa using h1, fun y hy => h2 y (by simp [hy])⟩, x.toNat, by omega, ?_⟩
      rw [show ((x.toNat : Nat) : Int) = x from by omega]
/-- The next word: none after the last one. -/
def nextL (k : Int) : List Int → Option (List Int)
  | [] => none
  | x :: xs => match nextL k xs with
    | some ys => some (x :: ys)
    | none => if x < k - 1 then some ((x + 1) :: List.replicate xs.length 0) else none
theorem nextL_some {k : Int} {b c : List Int} (h : nextL k b = some c) : ∀ a : List Int, nextL k (a ++ b) = some (a ++ c)
  | [] => h
  | x :: a => by simp only [List.cons_append, nextL, nextL_some h a]
theorem nextL_up {k x : Int} {b : List Int} (h : nextL k b = none) (hx : x < k - 1) (a : List Int) : nextL k (a ++ x :: b) = some (a ++ (x + 1) :: List.replicate b.length 0) :=
  nextL_some (by simp only [nextL, h]; rw [if_pos hx]) a
theorem nextL_none {k x : Int} {b : List Int} (h : nextL k b = none) (hx : ¬ x < k - 1) : nextL k (x :: b) = none := by
  simp only [nextL, h]; rw [if_neg hx]
theorem nextL_len {k : Int} : ∀ {w v : List Int}, nextL k w = some v → v.length = w.length
  | [], v, h => by simp [nextL] at h
  | x :: w, v, h => by
    simp only [nextL] at h
    split at h
    · rename_i ys hy
      cases h
      simp [nextL_len hy]
    · split at h
      · cases h; simp
      · cases h
theorem nextL_snoc {k x : Int} : ∀ w : List Int, nextL k (w ++ [x]) = if x < k - 1 then some (w ++ [x + 1]) else (nextL k w).map fun v => v ++ [0]
  | [] => by simp [nextL]
  | y :: w => by
    rw [List.cons_append, nextL, nextL_snoc w]
    by_cases h : x < k - 1
    · simp [h]
    · simp only [h, if_false, nextL]
      cases nextL k w with
      | some v => simp
      | none =>
        simp only [Option.map_none]
        split
        · simp [List.replicate_succ']
        · rfl
theorem wordsN_first (k : Nat) (hk : 1 ≤ k) : ∀ n, (wordsN k n)[0]? = some (List.replicate n 0)
  | 0 => rfl
  | n + 1 => by
    have := stepW_get (ws := wordsN k n) (i := 0) (x := 0) (k := k) (by omega)
    rw [Nat.zero_mul] at this
    rw [wordsN, this, wordsN_first k hk n]
    simp [List.replicate_succ']
theorem wordsN_next {k : Nat} (hk : 1 ≤ k) : ∀ {n j : Nat} {w : List Int}, (wordsN k n)[j]? = some w → nextL k w = (wordsN k n)[j + 1]?
  | 0, j, w, h => by
    cases j with
    | zero => simp [wordsN] at h; subst h; simp [wordsN, nextL]
    | succ j => simp [wordsN] at h
  | n + 1, j, w, h => by
    have hj : j = j / k * k + j % k := by rw [Nat.mul_comm]; exact (Nat.div_add_mod j k).symm
    have hm : j % k < k := Nat.mod_lt _ (by omega)
    simp only [wordsN] at h ⊢
    rw [hj, stepW_get hm, Option.map_eq_some_iff] at h
    obtain ⟨u, hu, rfl⟩ := h
    have ih := wordsN_next hk hu
    rw [nextL_snoc]
    by_cases hx : j % k + 1 < k
    · rw [if_pos (by omega), show j + 1 = j / k * k + (j % k + 1) from by omega, stepW_get hx, hu]
      simp
    · rw [if_neg (by omega), show j + 1 = (j / k + 1) * k + 0 from by rw [Nat.succ_mul]; omega, stepW_get (by omega), ih]
      rfl
theorem cmpL_app : ∀ {u v : List Int} (s t : List Int), u.length = v.length → Words.cmpL (u ++ s) (v ++ t) = if Words.cmpL u v = 0 then Words.cmpL s t else Words.cmpL u v
  | [], [], s, t, _ => by simp [Words.cmpL]
  | [], _ :: _, _, _, h => by simp at h
  | _ :: _, [], _, _, h => by simp at h
  | x :: u, y :: v, s, t, h => by
    have ih := cmpL_app (u := u) (v := v) s t (by simpa using h)
    simp only [List.cons_append, Words.cmpL]
    by_cases h1 : x < y
    · simp [h1]
    · by_cases h2 : y < x
      · simp [h1, h2]
      · simp only [h1, h2, if_false]; exact ih
theorem Asc.pairwise {g : List (List Int)} : Asc g ↔ g.Pairwise fun a b => Words.cmpL a b < 0 := by
  rw [List.pairwise_iff_getElem]
  constructor
  · intro h i j hi hj hij
    exact h i j _ _ hij (List.getElem?_eq_getElem hi) (List.getElem?_eq_getElem hj)
  · intro h i j a b hij ha hb
    obtain ⟨h1, rfl⟩ := List.getElem?_eq_some_iff.1 ha
    obtain ⟨h2, rfl⟩ := List.getElem?_eq_some_iff.1 hb
    exact h i j h1 h2 hij
theorem Asc.filter {g : List (List Int)} (h : Asc g) (f : List Int → Bool) : Asc (g.filter f) := Asc.pairwise.2 ((Asc.pairwise.1 h).sublist List.filter_sublist)
theorem wordsN_asc {k : Nat} : ∀ n, Asc (wordsN k n)
  | 0 => fun i j a b hij ha hb => by
    have h1 := (List.getElem?_eq_some_iff.1 ha).1
    have h2 := (List.getElem?_eq_some_iff.1 hb).1
    simp [wordsN] at h1 h2
    omega
  | n + 1 => fun i j a b hij ha hb => by
    have ih := wordsN_asc (k := k) n
    have hk : 1 ≤ k := by
      cases k with
      | zero =>
        have h0 := (List.getElem?_eq_some_iff.1 ha).1
        rw [wordsN, stepW_len] at h0
        omega
      | succ k => omega
    have hi : i = i / k * k + i % k := by rw [Nat.mul_comm]; exact (Nat.div_add_mod i k).symm
    have hj : j = j / k * k + j % k := by rw [Nat.mul_comm]; exact (Nat.div_add_mod j k).symm
    have hmi : i % k < k := Nat.mod_lt _ (by omega)
    have hmj : j % k < k := Nat.mod_lt _ (by omega)
    simp only [wordsN] at ha hb
    rw [hi, stepW_get hmi, Option.map_eq_some_iff] at ha
    rw [hj, stepW_get hmj, Option.map_eq_some_iff] at hb
    obtain ⟨u, hu, rfl⟩ := ha
    obtain ⟨v, hv, rfl⟩ := hb
    have lu := (wordsN_mem.1 (List.mem_of_getElem? hu)).1
    have lv := (wordsN_mem.1 (List.mem_of_getElem? hv)).1
    rw [cmpL_app _ _ (by omega)]
    have hle : i / k ≤ j / k := Nat.div_le_div_right (by omega)
    rcases Nat.lt_or_eq_of_le hle with h | h
    · have := ih _ _ _ _ h hu hv
      rw [if_neg (by omega)]
      exact this
    · rw [h, hv] at hu
      obtain rfl := Option.some.inj hu
      rw [Words.cmpL_self, if_pos rfl]
      rw [h] at hi
      have : ((i % k : Nat) : Int) < (j % k : Nat) := by omega
      simp only [Words.cmpL]
      rw [if_pos this]
      omega
theorem powTo_eq {k : Int} (hk : 0 ≤ k) : ∀ n, Nums.powTo k n = ((k.toNat ^ n : Nat) : Int)
  | 0 => rfl
  | n + 1 => by
    rw [Nums.powTo, powTo_eq hk n, Nat.pow_succ, Int.natCast_mul, show ((k.toNat : Nat) : Int) = k from by omega]
theorem pow_up {k : Nat} (hk : 1 ≤ k) {i n : Nat} (h : i ≤ n) : k ^ i ≤ k ^ n := Nat.pow_le_pow_right hk h
def degree (g : List (List Int)) : Nat := (row0 g).length
def smallB (g : List (List Int)) (k : Int) : Bool := grpB g && (decide (1 ≤ k ∧ k ≤ 4) && decide (Nums.pw k (row0 g).length ≤ 1024))
def isPat (g : List (List Int)) (w : List Int) : Bool := decide (canon g w = w)
def pats (g : List (List Int)) (k : Int) : List (List Int) := (wordsN k.toNat (row0 g).length).filter (isPat g)
def patsW (g : List (List Int)) (k : Int) : List (List Int) := if smallB g k = true then pats g k else []
theorem smallB_parts {g : List (List Int)} {k : Int} (h : smallB g k = true) : grpB g = true ∧ 1 ≤ k ∧ k ≤ 4 ∧ k.toNat ^ (row0 g).length ≤ 1024 := by
  unfold smallB at h
  simp only [Bool.and_eq_true, decide_eq_true_eq] at h
  obtain ⟨h1, ⟨h2, h3⟩, h4⟩ := h
  refine ⟨h1, h2, h3, ?_⟩
  unfold Nums.pw at h4
  rw [show ((row0 g).length : Int).toNat = (row0 g).length from by omega, powTo_eq (by omega)] at h4
  omega
theorem row0_len {g : List (List Int)} (h : grpB g = true) : 1 ≤ (row0 g).length ∧ (row0 g).length ≤ 10 := by
  obtain ⟨h1, h2, h3, h4⟩ := grpB_parts h
  have hm : row0 g ∈ g := by
    unfold row0 List.getD
    rw [List.getElem?_eq_getElem (show 0 < g.length by omega)]
    exact List.getElem_mem _
  exact permB_len (rowsTo_mem h3 hm).1
theorem pats_len {g : List (List Int)} {k : Int} (h : smallB g k = true) : (pats g k).length ≤ 1024 := by
  have h4 := (smallB_parts h).2.2.2
  have := List.length_filter_le (isPat g) (wordsN k.toNat (row0 g).length)
  rw [wordsN_len] at this
  unfold pats
  omega
theorem pats_mem {g : List (List Int)} {k : Int} {w : List Int} : w ∈ pats g k ↔ (w.length = (row0 g).length ∧ ∀ x ∈ w, 0 ≤ x ∧ x < k) ∧ canon g w = w := by
  unfold pats isPat
  rw [List.mem_filter, wordsN_mem, decide_eq_true_eq]
  constructor
  · rintro ⟨⟨h1, h2⟩, h3⟩
    exact ⟨⟨h1, fun x hx => by have := h2 x hx; omega⟩, h3⟩
  · rintro ⟨⟨h1, h2⟩, h3⟩
    exact ⟨⟨h1, fun x hx => by have := h2 x hx; omega⟩, h3⟩
theorem pats_asc (g : List (List Int)) (k : Int) : Asc (pats g k) := (wordsN_asc _).filter _
theorem pats_fits {g : List (List Int)} {k : Int} (h : smallB g k = true) {w : List Int} (hw : w ∈ pats g k) : fitsB g w = true := by
  obtain ⟨h1, h2, h3, h4⟩ := smallB_parts h
  obtain ⟨⟨a, b⟩, c⟩ := pats_mem.1 hw
  have hr := row0_len h1
  unfold fitsB
  rw [h1, Words.okW_mk (by omega) (by omega) (fun x hx => by have := b x hx; omega), decide_eq_true a]
  rfl
end Go.Proofs.YtdjdagcgodpgdaaGreat.Perms
