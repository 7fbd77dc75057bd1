/-
  The number of a necklace.
-/
import Derived.Test.YtmlmpneikhdgcaaNum0
import Derived.Test.YtmlmpneikhdgcaaFind
import Derived.Test.YtmlmpneikhdgcaaIsm
set_option linter.unusedVariables false
namespace Go.Proofs.Ytmlmpneikhdgcaa
open Go.RowKit

set_option maxHeartbeats 1600000 in
theorem NecklaceNumber_i {va : Value} {xs : List Int} {k : Int} {w : World} {Q : Ending → World → Prop} (ha : IntsAt w va xs) (hn : xs.length ≤ 1048576)
    (hQ : ∀ w', Below w.heap.size w w' → Q (.returned (.int .i64 (Words.numO xs k))) w') :
    Calls Try.prog 22 #[va, .int .i64 k] w Q := by
  have H := Lib.hid hQ; clear hQ
  have ha0 := Lib.hid ha
  obtain ⟨aa, ca, rfl, la, lca, cca⟩ := ha.form
  have bad : ∀ w', Below w.heap.size w w' → (Words.nextOk xs k = true → ¬ Nums.pw k xs.length ≤ 1024) → Q (.returned (.int .i64 (-1))) w' := fun w' hb hf => by
    have := H.out w' hb
    unfold Words.numO at this
    rw [if_neg (fun h => hf h.1 h.2)] at this
    exact this
  have bad' := Lib.hid bad
  clear bad
  go_enter Try.func22, Try.ntmps22
  go_wp2_with fail
  refine LeastRotation_i ha0.out hn ?_
  intro v1 w1 o1 b1
  obtain ⟨a1, c1, rfl, _, _, _⟩ := Own.form o1
  by_cases hok : Words.okW xs = true
  rotate_left
  · have hok2 : Words.okW xs = false := by simpa using hok
    have hf : Hid (Words.nextOk xs k = false) := Lib.hid (by unfold Words.nextOk; rw [hok2]; rfl)
    rw [hok2]
    clear hok hok2
    go_wp2_with fail
    exact bad'.out _ b1 (fun h => by rw [hf.out] at h; cases h)
  have hok' := Lib.hid hok
  obtain ⟨hl1, hl2⟩ := Words.okW_len hok
  rw [hok]
  clear hok
  have ha1 := Lib.hid (ha0.out.below b1)
  go_wp2_with fail
  refine below_i ha1.out ?_
  intro w2 b2
  have hb2 : Below w.heap.size w w2 := b1.trans (b2.mono b1.size)
  cases hb : xs.all fun x => decide (x < k) with
  | false =>
    have hf : Hid (Words.nextOk xs k = false) := Lib.hid (by unfold Words.nextOk; rw [hb, Bool.and_false, Bool.and_false])
    clear hb
    go_wp2_with fail
    exact bad'.out _ hb2 (fun h => by rw [hf.out] at h; cases h)
  | true =>
    have hall := Lib.hid hb
    clear hb
    go_wp2_with fail
    refine isSmall_i (by omega) (by omega) ?_
    cases hs : (decide (1 ≤ k ∧ k ≤ 4) && decide (Nums.pw k xs.length ≤ 1024)) with
    | false =>
      have hf : Hid (Words.nextOk xs k = true → ¬ Nums.pw k xs.length ≤ 1024) := Lib.hid (by
        intro h1 h2
        have h3 := (Words.okW_in h1)
        rw [decide_eq_true (show 1 ≤ k ∧ k ≤ 4 from ⟨h3.1, h3.2.1⟩), decide_eq_true h2] at hs
        cases hs)
      clear hs
      go_wp2_with fail
      exact bad'.out _ hb2 hf.out
    | true =>
      simp only [Bool.and_eq_true, decide_eq_true_eq] at hs
      obtain ⟨⟨hk1, hk4⟩, hp⟩ := hs
      have hno : Hid (Words.nextOk xs k = true) := Lib.hid (by
        unfold Words.nextOk; rw [hok'.out, hall.out, decide_eq_true (show 1 ≤ k ∧ k ≤ 4 from ⟨hk1, hk4⟩)]; rfl)
      have e : Hid (Words.numO xs k = Perms.idx (Words.necks k xs.length) (Words.lrW xs)) := Lib.hid (by
        unfold Words.numO; rw [if_pos ⟨hno.out, hp⟩]; rfl)
      have hln : Hid ((Words.necks k xs.length).length ≤ 1024) := Lib.hid (Words.necksN_len (by
        rw [Words.pw_pow (by omega)] at hp
        omega))
      clear hp
      go_wp2_with fail
      refine necklaces_i hk1 hk4 (by omega) (by omega) ?_
      intro v3 w3 o3 b3
      obtain ⟨a3, c3, rfl, _, _, _⟩ := o3.form
      have hb3 : Below w.heap.size w w3 := hb2.trans (b3.mono hb2.size)
      have o1' := Lib.hid (OwnInts.at (OwnInts.below (OwnInts.below o1 b2) b3))
      have o3' := Lib.hid o3.at
      clear o3 o1
      go_wp2_with fail
      refine find_i o3'.out o1'.out (Words.necksN_asc k.toNat xs.length) (by have := hln.out; omega) ?_
      intro w4 d4
      have h2 := H.out w4 (hb3.trans (d4.below _))
      rw [e.out] at h2
      have h3 := Lib.hid h2
      clear h2
      go_wp2_with fail
      exact h3.out
set_option maxHeartbeats 1600000 in
theorem NecklaceNumber_s {va : Value} {xs : List Int} {k : Int} {w : World} {Q : Ending → World → Prop} (ha : IntsAt w va xs) (hn : xs.length ≤ 1048576)
    (hQ : ∀ w', Below w.heap.size w w' → Q (.returned (.int .i64 (Words.numO xs k))) w') :
    Calls Try.prog 21 #[va, .int .i64 k] w Q := by
  have H := Lib.hid hQ; clear hQ
  have ha0 := Lib.hid ha
  obtain ⟨aa, ca, rfl, la, lca, cca⟩ := ha.form
  have bad : ∀ w', Below w.heap.size w w' → (Words.nextOk xs k = true → ¬ Nums.pw k xs.length ≤ 1024) → Q (.returned (.int .i64 (-1))) w' := fun w' hb hf => by
    have := H.out w' hb
    unfold Words.numO at this
    rw [if_neg (fun h => hf h.1 h.2)] at this
    exact this
  have bad' := Lib.hid bad
  clear bad
  go_enter Try.func21, Try.ntmps21
  go_wp2_with fail
  refine l07Below_c ha0.out ?_
  by_cases hok : Words.nextOk xs k = true
  rotate_left
  · have hok2 : Words.nextOk xs k = false := by simpa using hok
    have hf := Lib.hid hok2
    rw [hok2]
    clear hok hok2
    go_wp2_with fail
    exact bad'.out _ (Below.refl _ _) (fun h => by rw [hf.out] at h; cases h)
  have hno := Lib.hid hok
  obtain ⟨hk1, hk4, hl1, hl2, hmem⟩ := Words.okW_in hok
  have hlr := Lib.hid (Words.lrW_mem hok)
  have hokW : Hid (Words.okW xs = true) := Lib.hid (by unfold Words.nextOk at hok; simp only [Bool.and_eq_true] at hok; exact hok.1)
  rw [hok]
  clear hok hmem
  have hpb := Nums.pw_bd (k := k) (n := xs.length) (by omega) hk4 (by omega)
  go_wp2_with fail
  refine power_s (by omega) hk4 (by omega) (by omega) ?_
  by_cases hp : Nums.pw k xs.length ≤ 1024
  rotate_left
  · have hp' := Lib.hid hp
    go_wp2_with fail
    exact bad'.out _ (Below.refl _ _) (fun _ => hp'.out)
  have e : Hid (Words.numO xs k = Perms.idx (Words.necksN k.toNat xs.length) (Words.lrW xs)) := Lib.hid (by
    unfold Words.numO; rw [if_pos ⟨hno.out, hp⟩])
  have hlen := Words.lrW_len hokW.out
  obtain ⟨r, hr0⟩ := List.getElem?_of_mem hlr.out
  have hidx : Hid (Words.numO xs k = r) := Lib.hid (by rw [e.out]; exact Perms.idx_at (Words.necksN_asc _ _) hr0)
  have hrl0 := (List.getElem?_eq_some_iff.1 hr0).1
  have hr := Lib.hid hr0
  have hLl : (Words.necksN k.toNat xs.length).length ≤ 1024 := Words.necksN_len (by
    have h := hp
    rw [Words.pw_pow (by omega)] at h
    omega)
  have hfst : Hid ((Words.necksN k.toNat xs.length)[0]? = some (List.replicate xs.length 0)) := Lib.hid (Words.necksN_first (by omega) xs.length)
  have hnxt : Hid (∀ (j : Nat) (x : List Int), (Words.necksN k.toNat xs.length)[j]? = some x → Words.nextO x k = (Words.necksN k.toNat xs.length)[j + 1]?) := Lib.hid fun j x h => Words.necksN_next (by omega) (by omega) hk1 hk4 h
  have hles : Hid (∀ (i j : Nat) (x y : List Int), (Words.necksN k.toNat xs.length)[i]? = some x → (Words.necksN k.toNat xs.length)[j]? = some y → Words.less x y = decide (i < j)) := Lib.hid fun i j x y h1 h2 => Words.necksN_less h1 h2
  have hln : Hid (∀ (i : Nat) (x : List Int), (Words.necksN k.toNat xs.length)[i]? = some x → x.length = xs.length) := Lib.hid fun i x h => (Words.necksN_mem (List.mem_of_getElem? h)).1
  obtain ⟨L, hL⟩ : ∃ L, L = Words.necksN k.toNat xs.length := ⟨_, rfl⟩
  rw [← hL] at hr hfst hnxt hles hln hrl0 hLl
  obtain ⟨lw, hlw⟩ : ∃ lw, lw = Words.lrW xs := ⟨_, rfl⟩
  clear hL hr0 e hlr
  go_wp2_with fail
  refine LeastRotation_s ha0.out hn ?_
  intro v1 w1 o1 b1
  rw [← hlw] at o1 hr hlen
  clear hlw
  obtain ⟨a1, c1, rfl, _, _, _⟩ := Own.form o1
  have hzl := Lib.hid hokW.out
  go_wp2_with (at_make; refine mk_ints rfl (.tmp 28) (.tmp 28) rfl rfl rfl xs.length rfl (by omega) ?_; intro w2 o2 b2 s2)
  have hb2 : Below w.heap.size w w2 := b1.trans (b2.mono b1.size)
  have o1' : OwnInts w2 w.heap.size _ _ := OwnInts.below o1 b2
  have o2' : OwnInts w2 w.heap.size _ _ := OwnInts.mono o2 b1.size
  go_loopg [8, 9] r (fun gg u8 u9 wr => ∃ (j : Nat) (cur : List Int), u9 = .int .i64 j ∧ Hid (L[j]? = some cur) ∧ OwnInts wr w.heap.size u8 cur ∧ Below w2.heap.size w2 wr ∧ j ≤ r ∧ r ≤ j + gg)
  case atStart => exact ⟨0, _, rfl, hfst, o2', Below.refl _ _, by omega, by omega⟩
  case round =>
    obtain ⟨j, cur, rfl, hj, ho, hbw, hm1, hm2⟩ := hrel
    have hcl := hln.out j cur hj.out
    obtain ⟨a8, c8, rfl, _, _, _⟩ := Own.form ho
    have ho1 := Lib.hid (OwnInts.at (OwnInts.below o1' hbw))
    have ho8 := Lib.hid (OwnInts.at ho)
    have hls := hles.out j r cur lw hj.out hr.out
    by_cases hjr : j < r
    · have hj1l : j + 1 < L.length := by omega
      obtain ⟨nx, hnx⟩ : ∃ nx, L[j + 1]? = some nx := ⟨_, List.getElem?_eq_getElem hj1l⟩
      have hnO : Hid (Words.nextO cur k = some nx) := Lib.hid (by rw [hnxt.out j cur hj.out, hnx])
      have hnx' := Lib.hid hnx
      have hls2 : Hid (Words.less cur lw = true) := Lib.hid (by rw [hls, decide_eq_true hjr])
      clear hnx hls
      go_wp2_with (go_at_call 64; refine l03Less_c ho8.out ho1.out (by omega) ?_; rw [hls2.out])
      refine NextNecklace_s ho8.out ?_
      intro v3 w3 o3 b3
      have e1 : Words.nextW cur k = nx := by unfold Words.nextW; rw [hnO.out]; rfl
      have e2 : Words.nextB cur k = true := by unfold Words.nextB; rw [hnO.out]; rfl
      rw [e1] at o3
      rw [e2]
      have hs2 := hb2.size
      have hs3 := hbw.size
      have hbw3 : Below w2.heap.size w2 w3 := hbw.trans (b3.mono hbw.size)
      have o3' : OwnInts w3 w.heap.size v3 nx := OwnInts.mono o3 (by omega)
      clear e1 e2 o3 b3
      obtain ⟨a3, c3, rfl, _, _, _⟩ := Own.form o3'
      go_wp2_with fail
      go_roundg (gk - 1)
      case measure => omega
      case rel => exact ⟨j + 1, nx, by go_num, hnx', o3', hbw3, by omega, by omega⟩
    · have hjr2 : j = r := by omega
      have hls2 : Hid (Words.less cur lw = false) := Lib.hid (by rw [hls, decide_eq_false hjr])
      have h2 := H.out wr (hb2.trans (hbw.mono hb2.size))
      rw [hidx.out] at h2
      have h3 := Lib.hid h2
      clear h2 hls
      go_wp2_with (go_at_call 64; refine l03Less_c ho8.out ho1.out (by omega) ?_; rw [hls2.out])
      exact h3.out
end Go.Proofs.Ytmlmpneikhdgcaa
