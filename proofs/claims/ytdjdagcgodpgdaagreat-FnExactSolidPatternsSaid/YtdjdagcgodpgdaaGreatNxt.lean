/-
  The next word, in place.
-/
import Derived.Test.YtdjdagcgodpgdaaGreatMem
import Derived.Test.YtdjdagcgodpgdaaGreatWordsN
set_option linter.unusedVariables false
namespace Go.Proofs.YtdjdagcgodpgdaaGreat
open Go.RowKit

set_option maxHeartbeats 1600000 in
theorem next_s {q cap B : Nat} {xs : List Int} {k : Int} {w : World} {Q : Ending → World → Prop} (ho : OwnInts w B (.slice (some ⟨q, 0, none⟩) xs.length cap) xs) (hk1 : 1 ≤ k) (hk4 : k ≤ 4) (hr : ∀ x ∈ xs, 0 ≤ x ∧ x < k) (hl : xs.length ≤ 10)
    (hQ1 : ∀ ys w', Perms.nextL k xs = some ys → OwnInts w' B (.slice (some ⟨q, 0, none⟩) ys.length cap) ys → w.grownBy w' (some q) → Q (.returned (.bool true)) w')
    (hQ2 : ∀ w', Perms.nextL k xs = none → w.grownBy w' (some q) → Q (.returned (.bool false)) w') :
    Calls Tryz.prog 61 #[.slice (some ⟨q, 0, none⟩) xs.length cap, .int .i64 k] w Q := by
  have H1 := Lib.hid hQ1; clear hQ1
  have H2 := Lib.hid hQ2; clear hQ2
  have hr' := Lib.hid hr
  clear hr
  go_enter Tryz.func61, Tryz.ntmps61
  have hlz : (xs.length : Int) ≤ 10 := by omega
  go_wp2_with fail
  go_loopg [5] xs.length (fun g i wr => ∃ (z : Int) (j : Nat), i = .int .i64 z ∧ z + 1 = j ∧ w.grownBy wr (some q) ∧ OwnInts wr B (.slice (some ⟨q, 0, none⟩) xs.length cap) (xs.take j ++ List.replicate (xs.length - j) 0) ∧ Hid (Perms.nextL k (xs.drop j) = none) ∧ j ≤ g ∧ j ≤ xs.length)
  case atStart =>
    exact ⟨_, xs.length, rfl, by omega, ⟨rfl, rfl, rfl, Nat.le_refl _, fun _ _ _ => rfl⟩, by simpa using ho, Lib.hid (by rw [List.drop_length]; rfl), by omega, by omega⟩
  case round =>
    obtain ⟨z, j, rfl, hz, hgw, hob, hn, hj1, hj2⟩ := hrel
    by_cases hj : j = 0
    · subst hj
      have hzn : z < 0 := by omega
      go_wp2_with fail
      refine H2.out _ ?_ hgw
      have := hn.out
      rwa [List.drop_zero] at this
    · obtain ⟨m, rfl⟩ : ∃ m, j = m + 1 := ⟨j - 1, by omega⟩
      obtain rfl : z = m := by omega
      have hm : m < xs.length := by omega
      obtain ⟨x, hx⟩ : ∃ x, xs[m]? = some x := ⟨_, List.getElem?_eq_getElem hm⟩
      have hx' := Lib.hid hx
      obtain ⟨x0, x1⟩ := hr'.out x (List.mem_of_getElem? hx)
      have hc : wr.cell? ⟨q, m, none⟩ = some (.int .i64 x) := Own.cell hob (by
        rw [ints_get, List.getElem?_append_left (by rw [List.length_take]; omega), List.getElem?_take, if_pos (by omega), hx]; rfl)
      have hfr := Own.frozen hob m
      have i1 : (m : Int) < xs.length := by omega
      have hd : Hid (xs.drop m = x :: xs.drop (m + 1)) := Lib.hid (by
        obtain ⟨h1, h2⟩ := List.getElem?_eq_some_iff.1 hx
        rw [List.drop_eq_getElem_cons h1, h2])
      have hset : ∀ y : Int, Hid ((xs.take (m + 1) ++ List.replicate (xs.length - (m + 1)) 0).set m y = xs.take m ++ y :: List.replicate (xs.length - (m + 1)) 0) := fun y => Lib.hid (by
        rw [List.set_append_left _ _ (by rw [List.length_take]; omega), List.take_add_one, hx, List.set_append_right _ _ (by rw [List.length_take]; omega), List.length_take, Nat.min_eq_left (by omega), Nat.sub_self]
        simp)
      clear hx hz
      by_cases hlt : x < k - 1
      · have hnx : Hid (Perms.nextL k xs = some (xs.take m ++ (x + 1) :: List.replicate (xs.length - (m + 1)) 0)) := Lib.hid (by
          have h := Perms.nextL_up hn.out hlt (xs.take m)
          rw [← hd.out, List.take_append_drop, List.length_drop] at h
          exact h)
        have hyl : Hid ((xs.take m ++ (x + 1) :: List.replicate (xs.length - (m + 1)) 0).length = xs.length) := Lib.hid (by
          simp only [List.length_append, List.length_take, List.length_cons, List.length_replicate]; omega)
        go_wp2_with fail
        refine H1.out _ _ hnx.out ?_ (grown_trans hgw (grown_set _ _ _ _))
        have h := OwnInts.set hob m (x + 1)
        rw [(hset _).out] at h
        rw [hyl.out]
        exact h
      · have hnx : Hid (Perms.nextL k (xs.drop m) = none) := Lib.hid (by rw [hd.out]; exact Perms.nextL_none hn.out hlt)
        go_wp2_with fail
        go_roundg (gk - 1)
        case measure => omega
        case rel =>
          have h := OwnInts.set hob m 0
          rw [(hset _).out] at h
          refine ⟨_, m, rfl, by omega, grown_trans hgw (grown_set _ _ _ _), ?_, hnx, by omega, by omega⟩
          rw [show xs.length - m = (xs.length - (m + 1)) + 1 from by omega, List.replicate_succ]
          exact h
theorem next_n {q n cap B : Nat} {xs : List Int} {k : Int} {w : World} {Q : Ending → World → Prop} (hn : xs.length = n) (ho : OwnInts w B (.slice (some ⟨q, 0, none⟩) n cap) xs) (hk1 : 1 ≤ k) (hk4 : k ≤ 4) (hr : ∀ x ∈ xs, 0 ≤ x ∧ x < k) (hl : n ≤ 10)
    (hQ1 : ∀ ys w', Perms.nextL k xs = some ys → OwnInts w' B (.slice (some ⟨q, 0, none⟩) n cap) ys → w.grownBy w' (some q) → Q (.returned (.bool true)) w')
    (hQ2 : ∀ w', Perms.nextL k xs = none → w.grownBy w' (some q) → Q (.returned (.bool false)) w') :
    Calls Tryz.prog 61 #[.slice (some ⟨q, 0, none⟩) n cap, .int .i64 k] w Q := by
  subst hn
  exact next_s ho hk1 hk4 hr hl (fun ys w' h h1 h2 => hQ1 ys w' h (by rw [← Perms.nextL_len h]; exact h1) h2) hQ2
end Go.Proofs.YtdjdagcgodpgdaaGreat
