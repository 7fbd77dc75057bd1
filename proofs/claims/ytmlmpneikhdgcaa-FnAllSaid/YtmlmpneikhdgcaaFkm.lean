/-
  Necklaces letter by letter: the theorem of Fredricksen, Kessler and Maiorana. No program in sight.
-/
import Derived.Test.YtmlmpneikhdgcaaLyn
set_option linter.unusedVariables false
namespace Go.Proofs.Ytmlmpneikhdgcaa.Words

def at_ (xs : List Int) (i : Nat) : Int := xs.getD i 0
theorem at_some {xs : List Int} {i : Nat} (h : i < xs.length) : xs[i]? = some (at_ xs i) := by
  unfold at_; rw [List.getElem?_eq_getElem h]; simp [List.getD, List.getElem?_eq_getElem h]
theorem cmpL_at : ∀ {t : Nat} {xs ys : List Int}, t < xs.length → t < ys.length → (∀ s, s < t → at_ xs s = at_ ys s) → at_ xs t < at_ ys t → cmpL xs ys < 0
  | _, [], _, h, _, _, _ => by simp at h
  | _, _ :: _, [], _, h, _, _ => by simp at h
  | 0, x :: xs, y :: ys, _, _, _, h => by
    have h : x < y := by simpa [at_] using h
    simp only [cmpL]; rw [if_pos h]; omega
  | t + 1, x :: xs, y :: ys, h1, h2, he, h => by
    have e0 : x = y := by have := he 0 (by omega); simpa [at_] using this
    subst e0
    simp only [cmpL]
    rw [if_neg (by omega), if_neg (by omega)]
    refine cmpL_at (t := t) (by simpa using h1) (by simpa using h2) (fun s hs => ?_) ?_
    · have := he (s + 1) (by omega); simpa [at_] using this
    · simpa [at_] using h
theorem rot_at {xs : List Int} {k s : Nat} (hk : k ≤ xs.length) (hs : s < xs.length) : at_ (rot xs k) s = if k + s < xs.length then at_ xs (k + s) else at_ xs (k + s - xs.length) := by
  unfold at_ rot List.getD
  by_cases h : k + s < xs.length
  · rw [if_pos h, List.getElem?_append_left (by rw [List.length_drop]; omega), List.getElem?_drop]
  · rw [if_neg h, List.getElem?_append_right (by rw [List.length_drop]; omega), List.length_drop, List.getElem?_take, if_pos (by omega), show s - (xs.length - k) = k + s - xs.length from by omega]
/-- No rotation is less. -/
def neckP (xs : List Int) : Bool := (List.range xs.length).all fun k => !less (rot xs k) xs
theorem neckP_iff {xs : List Int} : neckP xs = true ↔ ∀ k, k < xs.length → ¬ cmpL (rot xs k) xs < 0 := by
  unfold neckP
  rw [List.all_eq_true]
  constructor
  · intro h k hk hc
    have := h k (List.mem_range.2 hk)
    rw [(less_neg (rot_len xs (by omega))).2 hc] at this
    cases this
  · intro h k hk
    have hk := List.mem_range.1 hk
    cases hc : less (rot xs k) xs with
    | false => rfl
    | true => exact absurd ((less_neg (rot_len xs (by omega))).1 hc) (h k hk)
theorem lrTo_min (xs : List Int) : ∀ j, j ≤ xs.length → ∀ k, k < j → less (rot xs k) (rot xs (lrTo xs j)) = false
  | 0, _, k, hk => by omega
  | j + 1, hj, k, hk => by
    have ih := lrTo_min xs j (by omega)
    have hl := lrTo_le xs j
    have lk : ∀ i, i ≤ xs.length → (rot xs i).length = xs.length := fun i hi => rot_len xs hi
    simp only [lrTo]
    cases hc : less (rot xs j) (rot xs (lrTo xs j)) with
    | false =>
      simp only [Bool.false_eq_true, if_false]
      by_cases e : k = j
      · subst e; exact hc
      · exact ih k (by omega)
    | true =>
      simp only [if_true]
      by_cases e : k = j
      · subst e; exact less_irr _
      · cases h2 : less (rot xs k) (rot xs j) with
        | false => rfl
        | true =>
          have := less_trans (by rw [lk k (by omega), lk j (by omega)]) (by rw [lk j (by omega), lk _ (by omega)]) h2 hc
          rw [ih k (by omega)] at this
          cases this
theorem neckB_P {xs : List Int} (h : okW xs = true) : neckB xs = neckP xs := by
  have hl := okW_len h
  rw [Bool.eq_iff_iff]
  unfold neckB
  rw [h, Bool.true_and, decide_eq_true_eq, neckP_iff]
  have hz := lrTo_zero xs xs.length (Nat.le_refl _)
  have hm := lrTo_min xs xs.length (Nat.le_refl _)
  have hle := lrTo_le xs xs.length
  constructor
  · intro e k hk hc
    unfold lrW at e
    rw [if_pos h] at e
    have := hm k hk
    rw [e, (less_neg (rot_len xs (by omega))).2 hc] at this
    cases this
  · intro hall
    unfold lrW
    rw [if_pos h]
    rcases hz with hz | hz
    · rw [hz, rot_zero]
    · have hk : lrTo xs xs.length < xs.length := by omega
      exact absurd ((less_neg (rot_len xs (by omega))).1 hz) (hall _ hk)

/-! ### the period, letter by letter -/
structure Inv (a : Nat → Int) (j p : Nat) : Prop where
  pos : 1 ≤ p
  le : p ≤ j
  per : ∀ i, p ≤ i → i < j → a i = a (i - p)
  up : ∀ r, 1 ≤ r → r < p → ∃ t, r + t < p ∧ (∀ s, s < t → a (r + s) = a s) ∧ a t < a (r + t)
theorem Inv.mod {a : Nat → Int} {j p : Nat} (h : Inv a j p) : ∀ {i : Nat}, i < j → a i = a (i % p) := by
  intro i
  induction i using Nat.strongRecOn with
  | _ i ih =>
    intro hi
    by_cases hp : i < p
    · rw [Nat.mod_eq_of_lt hp]
    · rw [h.per i (by omega) hi, ih (i - p) (by have := h.pos; omega) (by omega)]
      congr 1
      conv => rhs; rw [show i = (i - p) + p from by omega, Nat.add_mod_right]
theorem Inv.one (a : Nat → Int) : Inv a 1 1 := ⟨Nat.le_refl _, Nat.le_refl _, fun i h1 h2 => by omega, fun r h1 h2 => by omega⟩
theorem Inv.keep {a : Nat → Int} {j p : Nat} (h : Inv a j p) (he : a j = a (j - p)) : Inv a (j + 1) p :=
  ⟨h.pos, Nat.le_succ_of_le h.le, fun i h1 h2 => by
    by_cases e : i = j
    · rw [e]; exact he
    · exact h.per i h1 (by omega), h.up⟩
theorem Inv.new {a : Nat → Int} {j p : Nat} (h : Inv a j p) (hg : a (j - p) < a j) : Inv a (j + 1) (j + 1) := by
  have hp := h.pos
  have hle := h.le
  refine ⟨by omega, Nat.le_refl _, fun i h1 h2 => by omega, fun r h1 h2 => ?_⟩
  have hc : a (j - p) = a (j % p) := by
    rw [h.mod (by omega)]
    congr 1
    conv => rhs; rw [show j = (j - p) + p from by omega, Nat.add_mod_right]
  by_cases hr0 : r % p = 0
  · refine ⟨j - r, by omega, fun s hs => ?_, ?_⟩
    · rw [h.mod (i := r + s) (by omega), h.mod (i := s) (by omega)]
      congr 1
      rw [Nat.add_mod, hr0, Nat.zero_add, Nat.mod_mod]
    · rw [show r + (j - r) = j from by omega, h.mod (i := j - r) (by omega)]
      have e : (j - r) % p = j % p := by
        conv => rhs; rw [show j = r + (j - r) from by omega, Nat.add_mod, hr0, Nat.zero_add, Nat.mod_mod]
      rw [e, ← hc]
      exact hg
  · have hrp : r % p < p := Nat.mod_lt _ (by omega)
    obtain ⟨t, t1, t2, t3⟩ := h.up (r % p) (by omega) hrp
    have hrle := Nat.mod_le r p
    have low : ∀ s, s ≤ t → (r + s) % p = r % p + s := fun s hs => by
      rw [Nat.add_mod, Nat.mod_eq_of_lt (show s < p by omega), Nat.mod_eq_of_lt (by omega)]
    by_cases hjt : r + t < j
    · refine ⟨t, by omega, fun s hs => ?_, ?_⟩
      · rw [h.mod (i := r + s) (by omega), low s (by omega)]; exact t2 s hs
      · rw [h.mod (i := r + t) hjt, low t (Nat.le_refl _)]; exact t3
    · refine ⟨j - r, by omega, fun s hs => ?_, ?_⟩
      · rw [h.mod (i := r + s) (by omega), low s (by omega)]; exact t2 s (by omega)
      · rw [show r + (j - r) = j from by omega]
        have e : j % p = r % p + (j - r) := by
          conv => lhs; rw [show j = r + (j - r) from by omega]
          exact low (j - r) (by omega)
        have e2 : a (r % p + (j - r)) < a j := by rw [← e, ← hc]; exact hg
        by_cases ht : j - r = t
        · rw [ht] at e2 ⊢; omega
        · have := t2 (j - r) (by omega); omega
theorem Inv.congr {a b : Nat → Int} {j p : Nat} (h : Inv a j p) (he : ∀ i, i < j → a i = b i) : Inv b j p := by
  have hle := h.le
  have hp := h.pos
  refine ⟨h.pos, h.le, fun i h1 h2 => ?_, fun r h1 h2 => ?_⟩
  · rw [← he i h2, ← he (i - p) (by omega)]; exact h.per i h1 h2
  · obtain ⟨t, t1, t2, t3⟩ := h.up r h1 h2
    exact ⟨t, t1, fun s hs => by rw [← he _ (by omega), ← he _ (by omega)]; exact t2 s hs, by rw [← he _ (by omega), ← he _ (by omega)]; exact t3⟩
/-- A whole number of periods: a necklace. -/
theorem Inv.neck {xs : List Int} {p : Nat} (h : Inv (at_ xs) xs.length p) (hd : xs.length % p = 0) : neckP xs = true := by
  rw [neckP_iff]
  intro k hk hc
  have hp := h.pos
  have hle := h.le
  have cyc : ∀ s, s < xs.length → at_ (rot xs k) s = at_ xs ((k + s) % p) := fun s hs => by
    rw [rot_at (by omega) hs]
    split
    · rename_i h1; exact h.mod h1
    · rename_i h1
      rw [h.mod (by omega)]
      congr 1
      conv => rhs; rw [show k + s = (k + s - xs.length) + xs.length from by omega, Nat.add_mod, hd, Nat.add_zero, Nat.mod_mod]
  by_cases hr : k % p = 0
  · have e : rot xs k = xs := by
      apply List.ext_getElem?
      intro s
      by_cases hs : s < xs.length
      · rw [at_some (xs := rot xs k) (by rw [rot_len xs (by omega)]; exact hs), at_some hs, cyc s hs, h.mod hs, Nat.add_mod, hr, Nat.zero_add, Nat.mod_mod]
      · rw [List.getElem?_eq_none (by rw [rot_len xs (by omega)]; omega), List.getElem?_eq_none (by omega)]
    rw [e, cmpL_self] at hc
    omega
  · have hrp : k % p < p := Nat.mod_lt _ (by omega)
    obtain ⟨t, t1, t2, t3⟩ := h.up (k % p) (by omega) hrp
    have low : ∀ s, s ≤ t → (k + s) % p = k % p + s := fun s hs => by
      rw [Nat.add_mod, Nat.mod_eq_of_lt (show s < p by omega), Nat.mod_eq_of_lt (by omega)]
    have := cmpL_at (t := t) (xs := xs) (ys := rot xs k) (by omega) (by rw [rot_len xs (by omega)]; omega) (fun s hs => by rw [cyc s (by omega), low s (by omega), t2 s hs]) (by rw [cyc t (by omega), low t (Nat.le_refl _)]; exact t3)
    rw [cmpL_neg] at this
    omega
/-- No whole number of periods: none. -/
theorem Inv.not_neck {xs : List Int} {p : Nat} (h : Inv (at_ xs) xs.length p) (hd : xs.length % p ≠ 0) : neckP xs = false := by
  cases hn : neckP xs with
  | false => rfl
  | true =>
    have hp := h.pos
    have hle := h.le
    have hrp : xs.length % p < p := Nat.mod_lt _ (by omega)
    obtain ⟨t, t1, t2, t3⟩ := h.up (xs.length % p) (by omega) hrp
    obtain ⟨r, hr⟩ : ∃ r, r = xs.length % p := ⟨_, rfl⟩
    rw [← hr] at hd hrp t1 t2 t3
    have hk : xs.length - r < xs.length := by omega
    have hkm : (xs.length - r) % p = 0 := by
      have h1 := Nat.div_add_mod xs.length p
      rw [← hr] at h1
      rw [show xs.length - r = p * (xs.length / p) from by omega, Nat.mul_mod_right]
    have := cmpL_at (t := r + t) (xs := rot xs (xs.length - r)) (ys := xs) (by rw [rot_len xs (by omega)]; omega) (by omega) (fun s hs => ?_) ?_
    · exact absurd this (neckP_iff.1 hn _ hk)
    · rw [rot_at (by omega) (by omega)]
      split
      · rw [h.mod (by omega), h.mod (i := s) (by omega)]
        congr 1
        rw [Nat.add_mod, hkm, Nat.zero_add, Nat.mod_mod]
      · rw [show xs.length - r + s - xs.length = s - r from by omega]
        have := t2 (s - r) (by omega)
        rw [show r + (s - r) = s from by omega] at this
        exact this.symm
    · rw [rot_at (by omega) (by omega), if_neg (by omega), show xs.length - r + (r + t) - xs.length = t from by omega]
      exact t3
/-- A letter that is too small: none, whatever follows. -/
theorem Inv.low {xs : List Int} {j p : Nat} (h : Inv (at_ xs) j p) (hj : j < xs.length) (hl : at_ xs j < at_ xs (j - p)) : neckP xs = false := by
  cases hn : neckP xs with
  | false => rfl
  | true =>
    have hp := h.pos
    have hle := h.le
    have := cmpL_at (t := j - p) (xs := rot xs p) (ys := xs) (by rw [rot_len xs (by omega)]; omega) (by omega) (fun s hs => ?_) ?_
    · exact absurd this (neckP_iff.1 hn p (by omega))
    · rw [rot_at (by omega) (by omega), if_pos (by omega)]
      have := h.per (p + s) (by omega) (by omega)
      rw [this, show p + s - p = s from by omega]
    · rw [rot_at (by omega) (by omega), if_pos (by omega), show p + (j - p) = j from by omega]
      exact hl
end Go.Proofs.Ytmlmpneikhdgcaa.Words
