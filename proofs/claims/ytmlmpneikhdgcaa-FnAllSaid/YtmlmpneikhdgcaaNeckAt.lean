/-
  The necklace of a number.
-/
import Derived.Test.YtmlmpneikhdgcaaNeckAt0
import Derived.Test.YtmlmpneikhdgcaaCount
import Derived.Test.YtmlmpneikhdgcaaIsm
set_option linter.unusedVariables false
namespace Go.Proofs.Ytmlmpneikhdgcaa
open Go.RowKit

def Words.smallN (n k : Int) : Bool := decide (1 ≤ n ∧ n ≤ 10) && (decide (1 ≤ k ∧ k ≤ 4) && decide (Nums.pw k n ≤ 1024))
def Words.neckO (n k i : Int) : Option (List Int) := if Words.smallN n k = true ∧ 0 ≤ i then (Words.necksN k.toNat n.toNat)[i.toNat]? else none
def Words.neckW (n k i : Int) : List Int := (Words.neckO n k i).getD []
def Words.neckIs (n k i : Int) : Bool := (Words.neckO n k i).isSome
theorem Words.neckO_len {n k i : Int} {x : List Int} (h : Words.neckO n k i = some x) : (x.length : Int) = n := by
  unfold Words.neckO at h
  split at h
  · rename_i hc
    have hs := hc.1
    unfold Words.smallN at hs
    simp only [Bool.and_eq_true, decide_eq_true_eq] at hs
    have := (Words.necksN_mem (List.mem_of_getElem? h)).1
    omega
  · cases h
set_option maxHeartbeats 1600000 in
theorem NecklaceAt_i {n k i : Int} {w : World} {Q : Ending → World → Prop}
    (hQ : ∀ v w', OwnInts w' w.heap.size v (Words.neckW n k i) → Below w.heap.size w w' → Q (.returned (.tuple #[v, .bool (Words.neckIs n k i)])) w') :
    Calls Try.prog 20 #[.int .i64 n, .int .i64 k, .int .i64 i] w Q := by
  have H := Lib.hid hQ; clear hQ
  have none' : ∀ w', Below w.heap.size w w' → Words.neckO n k i = none → Q (.returned (.tuple #[.slice none 0 0, .bool false])) w' := fun w' hb e => by
    have := H.out (.slice none 0 0) w' (by unfold Words.neckW; rw [e]; exact Own.nil _ _ _) hb
    unfold Words.neckIs at this
    rw [e] at this; exact this
  have none'' := Lib.hid none'
  clear none'
  by_cases hn : 1 ≤ n ∧ n ≤ 10
  rotate_left
  · have hd : Hid (decide (1 ≤ n ∧ n ≤ 10) = false) := Lib.hid (decide_eq_false hn)
    have e : Hid (Words.neckO n k i = none) := Lib.hid (by unfold Words.neckO Words.smallN; rw [hd.out]; simp)
    clear hn
    go_enter Try.func20, Try.ntmps20
    go_wp2_with (go_at_call 60; refine isLength_i ?_; rw [hd.out])
    all_goals exact none''.out _ (Below.refl _ _) e.out
  have hd : Hid (decide (1 ≤ n ∧ n ≤ 10) = true) := Lib.hid (decide_eq_true hn)
  obtain ⟨hn1, hn2⟩ := hn
  have hsm : Hid (Words.smallN n k = (decide (1 ≤ k ∧ k ≤ 4) && decide (Nums.pw k n ≤ 1024))) := Lib.hid (by unfold Words.smallN; rw [hd.out, Bool.true_and])
  go_enter Try.func20, Try.ntmps20
  go_wp2_with (go_at_call 60; refine isLength_i ?_; rw [hd.out])
  refine isSmall_i (by omega) hn2 ?_
  rw [← hsm.out]
  by_cases hs0 : Words.smallN n k = true
  rotate_left
  · have hf : Hid (Words.smallN n k = false) := Lib.hid (by simpa using hs0)
    have e : Hid (Words.neckO n k i = none) := Lib.hid (by unfold Words.neckO; rw [if_neg (fun h => hs0 h.1)])
    rw [hf.out]
    clear hs0
    go_wp2_with fail
    exact none''.out _ (Below.refl _ _) e.out
  have hs := Lib.hid hs0
  have hs2 := hs0
  unfold Words.smallN at hs2
  simp only [Bool.and_eq_true, decide_eq_true_eq] at hs2
  obtain ⟨_, ⟨hk1, hk4⟩, _⟩ := hs2
  obtain ⟨m, rfl⟩ : ∃ m : Nat, n = m := ⟨n.toNat, by omega⟩
  rw [hs.out]
  clear hs0
  go_wp2_with fail
  refine necklaces_i hk1 hk4 (by omega) (by omega) ?_
  intro v1 w1 o1 b1
  obtain ⟨ao, co, rfl, lo, _, _⟩ := o1.form
  have hno : Hid (Words.neckO m k i = if 0 ≤ i then (Words.necks k m)[i.toNat]? else none) := Lib.hid (by
    unfold Words.neckO
    rw [Int.toNat_natCast]
    by_cases h0 : 0 ≤ i
    · rw [if_pos ⟨hs.out, h0⟩, if_pos h0]; rfl
    · rw [if_neg (fun h => h0 h.2), if_neg h0])
  by_cases h0 : 0 ≤ i
  · by_cases hi : i < (Words.necks k m).length
    · obtain ⟨j, rfl⟩ : ∃ j : Nat, i = j := ⟨i.toNat, by omega⟩
      obtain ⟨g, rfl, _, _⟩ := o1.head (by omega)
      obtain ⟨u, xs, hx, hc, hu, _⟩ := o1.cell (k := j) (by omega)
      obtain ⟨au, cu, rfl, _, _, _⟩ := Own.form hu
      have e : Words.neckO m k j = some xs := by rw [hno.out, if_pos h0, Int.toNat_natCast]; exact hx.out
      have h2 := H.out _ w1 (by unfold Words.neckW; rw [e]; exact hu) b1
      unfold Words.neckIs at h2
      rw [e] at h2
      have h3 := Lib.hid h2
      clear h2 e
      go_wp2_with fail
      exact h3.out
    · have e : Hid (Words.neckO m k i = none) := Lib.hid (by rw [hno.out, if_pos h0, List.getElem?_eq_none (by omega)])
      go_wp2_with fail
      exact none''.out _ b1 e.out
  · have e : Hid (Words.neckO m k i = none) := Lib.hid (by rw [hno.out, if_neg h0])
    go_wp2_with fail
    exact none''.out _ b1 e.out
set_option maxHeartbeats 1600000 in
theorem NecklaceAt_s {n k i : Int} {w : World} {Q : Ending → World → Prop}
    (hQ : ∀ v w', OwnInts w' w.heap.size v (Words.neckW n k i) → Below w.heap.size w w' → Q (.returned (.tuple #[v, .bool (Words.neckIs n k i)])) w') :
    Calls Try.prog 19 #[.int .i64 n, .int .i64 k, .int .i64 i] w Q := by
  have H := Lib.hid hQ; clear hQ
  have none' : ∀ w', Below w.heap.size w w' → Words.neckO n k i = none → Q (.returned (.tuple #[.slice none 0 0, .bool false])) w' := fun w' hb e => by
    have := H.out (.slice none 0 0) w' (by unfold Words.neckW; rw [e]; exact Own.nil _ _ _) hb
    unfold Words.neckIs at this
    rw [e] at this; exact this
  have none'' := Lib.hid none'
  clear none'
  by_cases hn : 1 ≤ n ∧ n ≤ 10
  rotate_left
  · have hd : Hid (decide (1 ≤ n ∧ n ≤ 10) = false) := Lib.hid (decide_eq_false hn)
    have e : Hid (Words.neckO n k i = none) := Lib.hid (by unfold Words.neckO Words.smallN; rw [hd.out]; simp)
    clear hn
    go_enter Try.func19, Try.ntmps19
    go_wp2_with (go_at_call 57; refine l01In_c ?_; rw [hd.out])
    all_goals exact none''.out _ (Below.refl _ _) e.out
  have hd : Hid (decide (1 ≤ n ∧ n ≤ 10) = true) := Lib.hid (decide_eq_true hn)
  obtain ⟨hn1, hn2⟩ := hn
  have hsm : Hid (Words.smallN n k = (decide (1 ≤ k ∧ k ≤ 4) && decide (Nums.pw k n ≤ 1024))) := Lib.hid (by unfold Words.smallN; rw [hd.out, Bool.true_and])
  by_cases hk : 1 ≤ k ∧ k ≤ 4
  rotate_left
  · have hdk : Hid (decide (1 ≤ k ∧ k ≤ 4) = false) := Lib.hid (decide_eq_false hk)
    have e : Hid (Words.neckO n k i = none) := Lib.hid (by unfold Words.neckO; rw [hsm.out, hdk.out]; simp)
    clear hk
    go_enter Try.func19, Try.ntmps19
    go_wp2_with (go_at_call 57; refine l01In_c ?_; first | rw [hd.out] | rw [hdk.out])
    all_goals exact none''.out _ (Below.refl _ _) e.out
  have hdk : Hid (decide (1 ≤ k ∧ k ≤ 4) = true) := Lib.hid (decide_eq_true hk)
  obtain ⟨hk1, hk4⟩ := hk
  go_enter Try.func19, Try.ntmps19
  go_wp2_with (go_at_call 57; refine l01In_c ?_; first | rw [hd.out] | rw [hdk.out])
  refine power_s (by omega) hk4 (by omega) (by omega) ?_
  have hpb := Nums.pw_bd (k := k) (n := n) (by omega) hk4 (by omega)
  by_cases hp : Nums.pw k n ≤ 1024
  rotate_left
  · have e : Hid (Words.neckO n k i = none) := Lib.hid (by unfold Words.neckO; rw [hsm.out, decide_eq_false hp]; simp)
    go_wp2_with fail
    exact none''.out _ (Below.refl _ _) e.out
  have hs : Hid (Words.smallN n k = true) := Lib.hid (by rw [hsm.out, hdk.out, decide_eq_true hp]; rfl)
  go_wp2_with fail
  refine CountNecklaces_s ?_
  intro w1 d1
  have b1 := d1.below w.heap.size
  obtain ⟨m, rfl⟩ : ∃ m : Nat, n = m := ⟨n.toNat, by omega⟩
  have hcnt : Hid (((Words.necksN k.toNat m).length : Int) = Nums.neck m k) := Lib.hid (by
    refine Words.necks_count (by omega) (by omega) hk1 hk4 ?_
    have h := hp
    rw [Words.pw_pow (by omega)] at h
    omega)
  have hnb := Nums.neck_bd m k
  obtain ⟨c, hc⟩ : ∃ c, c = Nums.neck m k := ⟨_, rfl⟩
  rw [← hc] at hnb hcnt ⊢
  obtain ⟨hnb1, hnb2, _⟩ := hnb
  clear hc hpb
  by_cases hi : 0 ≤ i ∧ i ≤ c - 1
  rotate_left
  · have hdi : Hid (decide (0 ≤ i ∧ i ≤ c - 1) = false) := Lib.hid (decide_eq_false hi)
    have e : Hid (Words.neckO m k i = none) := Lib.hid (by
      unfold Words.neckO
      split
      · rename_i h
        rw [Int.toNat_natCast]
        refine List.getElem?_eq_none ?_
        have := hcnt.out
        have := h.2
        omega
      · rfl)
    clear hi
    go_wp2_with (go_at_call 57; refine l01In_c ?_; rw [hdi.out])
    all_goals exact none''.out _ b1 e.out
  have hdi : Hid (decide (0 ≤ i ∧ i ≤ c - 1) = true) := Lib.hid (decide_eq_true hi)
  obtain ⟨hi0, hi1⟩ := hi
  obtain ⟨r, rfl⟩ : ∃ r : Nat, i = r := ⟨i.toNat, by omega⟩
  have hrl : r < (Words.necksN k.toNat m).length := by have := hcnt.out; omega
  obtain ⟨z, hz0⟩ : ∃ z, (Words.necksN k.toNat m)[r]? = some z := ⟨_, List.getElem?_eq_getElem hrl⟩
  have hno : Hid (Words.neckO m k r = (Words.necksN k.toNat m)[r]?) := Lib.hid (by
    unfold Words.neckO
    rw [if_pos ⟨hs.out, by omega⟩, Int.toNat_natCast, Int.toNat_natCast])
  have hz := Lib.hid hz0
  have hfst : Hid ((Words.necksN k.toNat m)[0]? = some (List.replicate m 0)) := Lib.hid (Words.necksN_first (by omega) m)
  have hnxt : Hid (∀ (j : Nat) (x : List Int), (Words.necksN k.toNat m)[j]? = some x → Words.nextO x k = (Words.necksN k.toNat m)[j + 1]?) := Lib.hid fun j x h => Words.necksN_next (by omega) (by omega) hk1 hk4 h
  obtain ⟨L, hL⟩ : ∃ L, L = Words.necksN k.toNat m := ⟨_, rfl⟩
  rw [← hL] at hz hfst hnxt hno hrl
  clear hL hz0 hcnt
  go_wp2_with (first | (go_at_call 57; refine l01In_c ?_; rw [hdi.out]) | (at_make; refine mk_ints rfl (.tmp 33) (.tmp 33) rfl rfl rfl m rfl (by omega) ?_; intro w2 o2 b2 s2))
  have hb2 : Below w.heap.size w w2 := b1.trans (b2.mono b1.size)
  have o2' : OwnInts w2 w.heap.size _ _ := OwnInts.mono o2 b1.size
  go_loopg [8, 9] r (fun gg u8 u9 wr => ∃ (j : Nat) (cur : List Int), u9 = .int .i64 j ∧ Hid (L[j]? = some cur) ∧ OwnInts wr w.heap.size u8 cur ∧ Below w.heap.size w wr ∧ j ≤ r ∧ r ≤ j + gg)
  case atStart => exact ⟨0, _, rfl, hfst, o2', hb2, by omega, by omega⟩
  case round =>
    obtain ⟨j, cur, rfl, hj, ho, hbw, hm1, hm2⟩ := hrel
    by_cases hjr : j < r
    · have hj1l : j + 1 < L.length := by omega
      obtain ⟨nx, hnx⟩ : ∃ nx, L[j + 1]? = some nx := ⟨_, List.getElem?_eq_getElem hj1l⟩
      have hnO : Hid (Words.nextO cur k = some nx) := Lib.hid (by rw [hnxt.out j cur hj.out, hnx])
      have hnx' := Lib.hid hnx
      have hc1 : (j : Int) < r := by omega
      clear hnx
      go_wp2_with fail
      refine NextNecklace_s (OwnInts.at ho) ?_
      intro v3 w3 o3 b3
      have e1 : Words.nextW cur k = nx := by unfold Words.nextW; rw [hnO.out]; rfl
      have e2 : Words.nextB cur k = true := by unfold Words.nextB; rw [hnO.out]; rfl
      rw [e1] at o3
      rw [e2]
      have hbw3 : Below w.heap.size w w3 := hbw.trans (b3.mono hbw.size)
      have o3' : OwnInts w3 w.heap.size v3 nx := OwnInts.mono o3 hbw.size
      clear e1 e2 o3 b3
      obtain ⟨a3, c3, rfl, _, _, _⟩ := Own.form o3'
      go_wp2_with fail
      go_roundg (gk - 1)
      case measure => omega
      case rel => exact ⟨j + 1, nx, by go_num, hnx', o3', hbw3, by omega, by omega⟩
    · have hjr2 : j = r := by omega
      subst hjr2
      have e : Hid (Words.neckO m k j = some cur) := Lib.hid (by rw [hno.out]; exact hj.out)
      have h2 := H.out u8 wr (by unfold Words.neckW; rw [e.out]; exact ho) hbw
      unfold Words.neckIs at h2
      rw [e.out] at h2
      have h3 := Lib.hid h2
      clear h2
      obtain ⟨a3, c3, rfl, _, _, _⟩ := Own.form ho
      go_wp2_with fail
      exact h3.out
end Go.Proofs.Ytmlmpneikhdgcaa
