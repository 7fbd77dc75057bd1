/-
  Plain functions on numbers: no program in sight.
-/
namespace Go.Proofs.YtdjdagcgodpgdaaGreat.Nums
def opp (a b : Int) : Bool := decide (0 ≤ a ∧ a < 6 ∧ 0 ≤ b ∧ b < 6 ∧ a ≠ b ∧ a / 2 = b / 2)
def sdeg (k : Int) : Int := if k = 1 then 4 else if k = 2 then 6 else if k = 3 then 6 else if k = 4 then 8 else 0

/-- The loop of Mobius: at most k rounds. -/
def mobAux : Nat → Int → Int → Int → Int
  | 0, _, _, s => s
  | k + 1, d, m, s => if m ≤ 1 then s else if m % d = 0 then (if m / d % d = 0 then 0 else mobAux k (d + 1) (m / d) (-s)) else mobAux k (d + 1) m s
def mob (n : Int) : Int := if 1 ≤ n ∧ n ≤ 1000 then mobAux 1000 2 n 1 else 0
/-- No number from 2 on below d divides m. -/
def Rough (d m : Int) : Prop := ∀ e : Int, 2 ≤ e → e < d → m % e ≠ 0
theorem rough_two (m : Int) : Rough 2 m := fun _ h1 h2 => absurd h1 (by omega)
theorem rough_le {d m : Int} (h : Rough d m) (hm : 1 < m) : d ≤ m := by
  apply Classical.byContradiction
  intro hc
  exact h m (by omega) (by omega) (Int.emod_self)
theorem rough_next {d m : Int} (h : Rough d m) (hd : m % d ≠ 0) : Rough (d + 1) m := fun e h1 h2 => by
  by_cases he : e = d
  · rw [he]; exact hd
  · exact h e h1 (by omega)
theorem rough_div {d m : Int} (h : Rough d m) (hdm : m % d = 0) (hd : m / d % d ≠ 0) : Rough (d + 1) (m / d) := fun e h1 h2 => by
  by_cases he : e = d
  · rw [he]; exact hd
  · intro hc
    refine h e h1 (by omega) ?_
    have e1 : m = d * (m / d) := by have := Int.mul_ediv_add_emod m d; omega
    rw [e1]
    exact Int.emod_eq_zero_of_dvd (Int.dvd_trans (Int.dvd_of_emod_eq_zero hc) (Int.dvd_mul_left _ _))
theorem div_pos {d m : Int} (hd0 : 2 ≤ d) (hm : 1 < m) (hdm : m % d = 0) : 1 ≤ m / d ∧ m / d ≤ m := by
  have e1 : m = d * (m / d) := by have := Int.mul_ediv_add_emod m d; omega
  have h0 : 0 ≤ m / d := Int.ediv_nonneg (by omega) (by omega)
  have h1 : m / d ≠ 0 := by intro h; rw [h] at e1; omega
  refine ⟨by omega, ?_⟩
  exact Int.ediv_le_self d (by omega)

/-- How many numbers from 1 to i have no divisor in common with n. -/
def totTo (n : Nat) : Nat → Int
  | 0 => 0
  | i + 1 => totTo n i + if Nat.gcd (i + 1) n = 1 then 1 else 0
def tot (n : Int) : Int := if 1 ≤ n ∧ n ≤ 1000 then totTo n.toNat n.toNat else 0
theorem totTo_bd (n : Nat) : ∀ i, 0 ≤ totTo n i ∧ totTo n i ≤ i
  | 0 => by simp [totTo]
  | i + 1 => by have := totTo_bd n i; simp only [totTo]; split <;> omega
theorem tot_bd (n : Int) : 0 ≤ tot n ∧ tot n ≤ 1000 := by
  unfold tot; split
  · have := totTo_bd n.toNat n.toNat; omega
  · omega
theorem mobAux_bd : ∀ k d m s, (-1 ≤ s ∧ s ≤ 1) → -1 ≤ mobAux k d m s ∧ mobAux k d m s ≤ 1
  | 0, _, _, s, h => by simpa [mobAux] using h
  | k + 1, d, m, s, h => by
    simp only [mobAux]
    split
    · exact h
    · split
      · split
        · omega
        · exact mobAux_bd k _ _ _ (by omega)
      · exact mobAux_bd k _ _ _ h
theorem mob_bd (n : Int) : -1 ≤ mob n ∧ mob n ≤ 1 := by
  unfold mob; split
  · exact mobAux_bd _ _ _ _ (by omega)
  · omega
theorem gcd_step (x y : Nat) : Nat.gcd y (x % y) = Nat.gcd x y := by
  rw [Nat.gcd_comm y (x % y), ← Nat.gcd_rec y x, Nat.gcd_comm]

/-- k to the power of j. -/
def powTo (k : Int) : Nat → Int
  | 0 => 1
  | j + 1 => powTo k j * k
def pw (k n : Int) : Int := powTo k n.toNat
theorem powTo_bd4 {k : Int} (h0 : 0 ≤ k) (h4 : k ≤ 4) : ∀ j : Nat, 0 ≤ powTo k j ∧ powTo k j ≤ ((4 ^ j : Nat) : Int)
  | 0 => by simp [powTo]
  | j + 1 => by
    obtain ⟨h1, h2⟩ := powTo_bd4 h0 h4 j
    refine ⟨Int.mul_nonneg h1 h0, ?_⟩
    rw [Nat.pow_succ, Int.natCast_mul]
    exact Int.mul_le_mul h2 (by omega) h0 (by omega)
theorem powTo_bd {k : Int} (h0 : 0 ≤ k) (h4 : k ≤ 4) {j : Nat} (hj : j ≤ 11) : 0 ≤ powTo k j ∧ powTo k j ≤ 4194304 := by
  obtain ⟨h1, h2⟩ := powTo_bd4 h0 h4 j
  refine ⟨h1, Int.le_trans h2 ?_⟩
  have := Nat.pow_le_pow_right (n := 4) (by decide) hj
  have e : (4 : Nat) ^ 11 = 4194304 := by decide
  omega
theorem pw_bd {k n : Int} (h0 : 0 ≤ k) (h4 : k ≤ 4) (hn : n ≤ 11) : 0 ≤ pw k n ∧ pw k n ≤ 4194304 := powTo_bd h0 h4 (by omega)
theorem mul_bd {t p : Int} (h1 : -1000 ≤ t) (h2 : t ≤ 1000) (h3 : 0 ≤ p) (h4 : p ≤ 4194304) : -4194304000 ≤ t * p ∧ t * p ≤ 4194304000 := by
  have a := Int.mul_le_mul_of_nonneg_right h1 h3
  have b := Int.mul_le_mul_of_nonneg_right h2 h3
  omega
/-- The sum of f d times k to the power of n / d over the divisors d of n up to j. -/
def dsum (f : Int → Int) (k n : Int) : Nat → Int
  | 0 => 0
  | j + 1 => dsum f k n j + if n % ((j : Int) + 1) = 0 then f ((j : Int) + 1) * pw k (n / ((j : Int) + 1)) else 0
theorem dsum_bd {f : Int → Int} {k n : Int} (hf : ∀ d, -1000 ≤ f d ∧ f d ≤ 1000) (h0 : 0 ≤ k) (h4 : k ≤ 4) (hn0 : 0 ≤ n) (hn : n ≤ 11) :
    ∀ j : Nat, -(4194304000 * (j : Int)) ≤ dsum f k n j ∧ dsum f k n j ≤ 4194304000 * (j : Int)
  | 0 => by simp [dsum]
  | j + 1 => by
    have ih := dsum_bd hf h0 h4 hn0 hn j
    have hd : n / ((j : Int) + 1) ≤ 11 := Int.le_trans (Int.ediv_le_self _ hn0) hn
    have hp := pw_bd h0 h4 hd
    have hb := mul_bd (hf ((j : Int) + 1)).1 (hf ((j : Int) + 1)).2 hp.1 hp.2
    simp only [dsum]
    split <;> omega
theorem dsum_nonneg {f : Int → Int} {k n : Int} (hf : ∀ d, 0 ≤ f d) (h0 : 0 ≤ k) (h4 : k ≤ 4) (hn0 : 0 ≤ n) (hn : n ≤ 11) : ∀ j : Nat, 0 ≤ dsum f k n j
  | 0 => by simp [dsum]
  | j + 1 => by
    have ih := dsum_nonneg hf h0 h4 hn0 hn j
    have hd : n / ((j : Int) + 1) ≤ 11 := Int.le_trans (Int.ediv_le_self _ hn0) hn
    have hp := pw_bd h0 h4 hd
    have hb := Int.mul_nonneg (hf ((j : Int) + 1)) hp.1
    simp only [dsum]
    split <;> omega
def fits (n k : Int) : Prop := 1 ≤ n ∧ n ≤ 10 ∧ 1 ≤ k ∧ k ≤ 4
instance (n k : Int) : Decidable (fits n k) := by unfold fits; infer_instance
def neck (n k : Int) : Int := if fits n k then (dsum tot k n n.toNat).tdiv n else -1
def lynd (n k : Int) : Int := if fits n k then (dsum mob k n n.toNat).tdiv n else -1
def mirr (n k : Int) : Int := if fits n k then (if n % 2 = 1 then pw k ((n + 1) / 2) else (pw k (n / 2) + pw k (n / 2 + 1)) / 2) else -1
def brac (n k : Int) : Int := if fits n k then (neck n k + mirr n k) / 2 else -1
def hand (n k : Int) : Int := if fits n k then neck n k - brac n k else -1
theorem tdiv_bd {s n : Int} (h1 : -41943040000 ≤ s) (h2 : s ≤ 41943040000) (hn : 1 ≤ n) : -41943040000 ≤ s.tdiv n ∧ s.tdiv n ≤ 41943040000 := by
  rcases Int.le_total 0 s with h | h
  · rw [Int.tdiv_eq_ediv_of_nonneg h]
    have := Int.ediv_nonneg h (by omega : 0 ≤ n)
    have := Int.ediv_le_self n h
    omega
  · have e : s = -(-s) := by omega
    rw [e, Int.neg_tdiv, Int.tdiv_eq_ediv_of_nonneg (by omega)]
    have := Int.ediv_nonneg (by omega : 0 ≤ -s) (by omega : 0 ≤ n)
    have := Int.ediv_le_self n (by omega : 0 ≤ -s)
    omega
theorem tot_bd' (d : Int) : -1000 ≤ tot d ∧ tot d ≤ 1000 := by have := tot_bd d; omega
theorem mob_bd' (d : Int) : -1000 ≤ mob d ∧ mob d ≤ 1000 := by have := mob_bd d; omega
theorem neck_bd (n k : Int) : -1 ≤ neck n k ∧ neck n k ≤ 41943040000 ∧ (fits n k → 0 ≤ neck n k) := by
  unfold neck
  split
  · rename_i h
    obtain ⟨h1, h2, h3, h4⟩ := h
    have hb := dsum_bd (f := tot) (k := k) (n := n) tot_bd' (by omega) h4 (by omega) (by omega) n.toNat
    have h0 := dsum_nonneg (f := tot) (k := k) (n := n) (fun d => (tot_bd d).1) (by omega) h4 (by omega) (by omega) n.toNat
    rw [Int.tdiv_eq_ediv_of_nonneg h0]
    have := Int.ediv_nonneg h0 (by omega : 0 ≤ n)
    have := Int.ediv_le_self n h0
    refine ⟨by omega, by omega, fun _ => by omega⟩
  · exact ⟨by omega, by omega, fun h => by contradiction⟩
theorem mirr_bd (n k : Int) : -1 ≤ mirr n k ∧ mirr n k ≤ 4194304 ∧ (fits n k → 0 ≤ mirr n k) := by
  unfold mirr
  split
  · rename_i h
    obtain ⟨h1, h2, h3, h4⟩ := h
    have a := pw_bd (k := k) (n := (n + 1) / 2) (by omega) h4 (by omega)
    have b := pw_bd (k := k) (n := n / 2) (by omega) h4 (by omega)
    have c := pw_bd (k := k) (n := n / 2 + 1) (by omega) h4 (by omega)
    split
    · exact ⟨by omega, by omega, fun _ => by omega⟩
    · exact ⟨by omega, by omega, fun _ => by omega⟩
  · exact ⟨by omega, by omega, fun h => by contradiction⟩
theorem brac_bd (n k : Int) : -1 ≤ brac n k ∧ brac n k ≤ 41943040000 := by
  have a := neck_bd n k
  have b := mirr_bd n k
  unfold brac
  split <;> omega
end Go.Proofs.YtdjdagcgodpgdaaGreat.Nums
