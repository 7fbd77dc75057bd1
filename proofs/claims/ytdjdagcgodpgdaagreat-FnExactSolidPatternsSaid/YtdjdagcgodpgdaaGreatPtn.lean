/-
  All words, the next word, the patterns.
-/
import Derived.Test.YtdjdagcgodpgdaaGreatIm
import Derived.Test.YtdjdagcgodpgdaaGreatMemT
import Derived.Test.YtdjdagcgodpgdaaGreatWordsN
import Derived.Test.YtdjdagcgodpgdaaGreatInts
set_option linter.unusedVariables false
namespace Go.Proofs.YtdjdagcgodpgdaaGreat
open Go.RowKit

set_option maxHeartbeats 1600000 in
theorem wordsOf_i {n : Nat} {k : Int} {w : World} {Q : Ending → World → Prop} (hk1 : 1 ≤ k) (hk4 : k ≤ 4) (hn : n ≤ 10) (hp : k.toNat ^ n ≤ 1024)
    (hQ : ∀ v w', OwnRows w' w.heap.size w'.heap.size v (Perms.wordsN k.toNat n) → Below w.heap.size w w' → Q (.returned v) w') :
    Calls Tryz.prog 41 #[.int .i64 n, .int .i64 k] w Q := by
  have H := Lib.hid hQ; clear hQ
  have hp' := Lib.hid hp
  clear hp
  go_enter Tryz.func41, Tryz.ntmps41
  go_wp2_with fail
  go_loopg [5, 13] n (fun g b i wr => ∃ j : Nat, i = .int .i64 j ∧ Below w.heap.size w wr ∧ OwnRows wr w.heap.size wr.heap.size b (Perms.wordsN k.toNat j) ∧ j + g ≤ n ∧ n ≤ j + g)
  case atStart =>
    refine ⟨0, rfl, (below_alloc w _).alloc (by simp) _, ?_, by omega, by omega⟩
    have h := (own_rows_one (own_empty w) (by simp)).tight
    rw [show (w.alloc (.cells #[] 3)).heap.size = w.heap.size + 1 from by simp] at h
    exact h
  case round =>
    obtain ⟨i, rfl, hbw, ho, hm1, hm2⟩ := hrel
    by_cases hi : i < n
    · have i1 : (i : Int) < n := by omega
      have hlen := Lib.hid (Perms.wordsN_len k.toNat i)
      have hrow : Hid (∀ u ∈ Perms.wordsN k.toNat i, u.length = i) := Lib.hid fun u hu => (Perms.wordsN_mem.1 hu).1
      have hsz : Hid ((Perms.wordsN k.toNat i).length * k.toNat ≤ 1024) := Lib.hid (by
        have h1 := Perms.pow_up (k := k.toNat) (by omega) (show i + 1 ≤ n by omega)
        have h2 := hp'.out
        rw [Nat.pow_succ] at h1
        rw [Perms.wordsN_len]
        omega)
      have hnx : Hid (Perms.wordsN k.toNat (i + 1) = Perms.stepW k.toNat (Perms.wordsN k.toNat i)) := Lib.hid rfl
      obtain ⟨ws, hws⟩ : ∃ ws, ws = Perms.wordsN k.toNat i := ⟨_, rfl⟩
      rw [← hws] at ho hlen hrow hsz hnx
      clear hws
      obtain ⟨ab, cb, rfl, lb, lcb, ccb⟩ := ho.form
      obtain ⟨wi, hwi⟩ : ∃ wi : World, wi = wr := ⟨_, rfl⟩
      subst hwi
      obtain ⟨gi, hgi⟩ : ∃ g' : Nat, g' = gk := ⟨_, rfl⟩
      subst hgi
      go_wp2_with fail
      go_loopg [6, 18] ws.length (fun g b i wr => ∃ j : Nat, i = .int .i64 j ∧ Below wi.heap.size wi wr ∧ wi.heap.size ≤ wr.heap.size ∧
        OwnRows wr wi.heap.size wr.heap.size b (Perms.stepW k.toNat (ws.take j)) ∧ j + g ≤ ws.length ∧ ws.length ≤ j + g)
      case atStart =>
        exact ⟨0, rfl, below_alloc _ _, by simp, (own_rows_empty _).tight, by omega, by omega⟩
      case round =>
        obtain ⟨j, rfl, hbj, hsj, hnj, hj1, hj2⟩ := hrel
        by_cases hj : j < ws.length
        · have i2 : (j : Int) < ws.length := by omega
          obtain ⟨go, rfl, _, _, _⟩ := ho.head (by omega)
          obtain ⟨u, wd, hx, hcx, hiw, hub⟩ := (ho.under hbj).cell hj
          have hwl := Lib.hid (hrow.out wd (List.mem_of_getElem? hx.out))
          have hst : Hid (Perms.stepW k.toNat (ws.take (j + 1)) = Perms.stepW k.toNat (ws.take j) ++ (List.range k.toNat).map fun (x : Nat) => wd ++ [(x : Int)]) := Lib.hid (by
            rw [List.take_add_one, hx.out, Perms.stepW_append]
            show _ ++ Perms.stepW k.toNat [wd] = _
            rw [Perms.stepW_cons]
            simp [Perms.stepW])
          have hsl : Hid ((Perms.stepW k.toNat (ws.take j)).length + k.toNat ≤ 1024) := Lib.hid (by
            have h1 := hsz.out
            rw [Perms.stepW_len, List.length_take, Nat.min_eq_left (by omega)]
            have h2 : (j + 1) * k.toNat ≤ ws.length * k.toNat := Nat.mul_le_mul_right _ (by omega)
            rw [Nat.succ_mul] at h2
            omega)
          obtain ⟨wj, hwj⟩ : ∃ wj : World, wj = wr := ⟨_, rfl⟩
          subst hwj
          obtain ⟨gj, hgj⟩ : ∃ g' : Nat, g' = gk := ⟨_, rfl⟩
          subst hgj
          obtain ⟨a', c', rfl, _, _, _⟩ := Own.form hiw
          go_wp2_with fail
          go_loopg [6, 23] k.toNat (fun g b i wr => ∃ x : Nat, i = .int .i64 x ∧ Below wi.heap.size wj wr ∧ wi.heap.size ≤ wr.heap.size ∧ OwnRows wr wi.heap.size wr.heap.size b (Perms.stepW k.toNat (ws.take j) ++ (List.range x).map fun (x : Nat) => wd ++ [(x : Int)]) ∧ x + g ≤ k.toNat ∧ k.toNat ≤ x + g)
          case atStart => exact ⟨0, rfl, Below.refl _ _, hsj, by simpa using hnj, by omega, by omega⟩
          case round =>
            obtain ⟨x, rfl, hbx, hsx, hnx2, hx1, hx2⟩ := hrel
            by_cases hxk : x < k.toNat
            · have i3 : (x : Int) < k := by omega
              have hrx : Hid (((List.range (x + 1)).map fun (x : Nat) => wd ++ [(x : Int)]) = ((List.range x).map fun (x : Nat) => wd ++ [(x : Int)]) ++ [wd ++ [(x : Int)]]) := Lib.hid (by rw [List.range_succ]; simp)
              go_wp2_with fail
              refine Clone_c (OwnInts.at (OwnInts.under hiw hub hbx)) (by have := hwl.out; omega) ?_
              intro v4 w4 o4 b4
              obtain ⟨ao4, ca4, rfl, la4, lc4, cc4⟩ := Own.form o4
              have hs4 := b4.size
              have hl4 : Hid ((Perms.stepW k.toNat (ws.take j) ++ (List.range x).map fun (x : Nat) => wd ++ [(x : Int)]).length + 1 ≤ 1099511627776) := Lib.hid (by
                rw [List.length_append, List.length_map, List.length_range]
                have := hsl.out
                omega)
              go_wp2_with (first
                | (at_builtin; refine app_int rfl (.tmp 28) (.tmp 30) rfl rfl (OwnInts.below o4 (below_alloc w4 _)) rfl (cell_new _ _ _) (by have := hwl.out; omega) (by simp; omega) ?_; intro v5 w5 o5 g5; obtain ⟨ao5, ca5, rfl, la5, lc5, cc5⟩ := Own.form o5; have b5 : Below wr.heap.size wr w5 := (b4.alloc hs4 _).grown g5 (by simp; omega) (fun b hb => (OwnInts.lt o4 hb).1); have o6' := OwnInts.mono (OwnInts.below o5 (below_alloc w5 (.cells #[.slice ao5 (ints (wd ++ [(x : Int)])).length ca5] 36))) hsx)
                | (at_builtin; refine app_rows rfl (.tmp 26) (.tmp 32) rfl rfl (OwnRows.below (hnx2.below b5) (below_alloc w5 _)) rfl (cell_new _ _ _) o6' (fun b hb => (OwnInts.lt o5 hb).1) hl4.out (by have := b5.size; simp; omega) ?_; intro v6 w6 o6 t6))
              go_roundg (gk - 1)
              case measure => omega
              case rel =>
                have hs5 := b5.size
                have hs6 := t6.size
                simp at hs6
                refine ⟨x + 1, by go_num, ((hbx.trans (b5.mono hsx)).alloc (by omega) _).trans (t6.below (Nat.le_refl _) (by simp; omega)), by omega, by rw [hrx.out, ← List.append_assoc]; exact o6, by omega, by omega⟩
            · go_wp2_with fail
              go_roundg (gj - 1)
              case measure => omega
              case rel =>
                rw [show x = k.toNat from by omega, ← hst.out] at hnx2
                exact ⟨j + 1, by go_num, hbj.trans hbx, hsx, hnx2, by omega, by omega⟩
        · go_wp2_with fail
          go_roundg (gi - 1)
          case measure => omega
          case rel =>
            rw [List.take_of_length_le (by omega), ← hnx.out] at hnj
            exact ⟨i + 1, by go_num, hbw.trans (hbj.mono hbw.size), hnj.mono hbw.size (Nat.le_refl _), by omega, by omega⟩
    · obtain rfl : i = n := by omega
      go_wp2_with fail
      exact H.out _ _ ho hbw
end Go.Proofs.YtdjdagcgodpgdaaGreat
