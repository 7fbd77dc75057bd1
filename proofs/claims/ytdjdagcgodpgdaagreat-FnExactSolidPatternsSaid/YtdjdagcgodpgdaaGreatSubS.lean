/-
  The subsets of four points, as the reference lists them.
-/
import Derived.Test.YtdjdagcgodpgdaaGreatVals
import Derived.Test.YtdjdagcgodpgdaaGreatInts
set_option linter.unusedVariables false
namespace Go.Proofs.YtdjdagcgodpgdaaGreat
open Go.RowKit

def Perms.subs : Nat → Nat → List (List Int)
  | 0, _ => [[]]
  | k + 1, a => (List.range (4 - a)).flatMap fun i => (Perms.subs k (a + i + 1)).map fun r => ((a + i : Nat) : Int) :: r
def Perms.subsTo (k a j : Nat) : List (List Int) := (List.range j).flatMap fun i => (Perms.subs k (a + i + 1)).map fun r => ((a + i : Nat) : Int) :: r
theorem Perms.subsTo_step (k a j : Nat) : Perms.subsTo k a (j + 1) = Perms.subsTo k a j ++ (Perms.subs k (a + j + 1)).map fun r => ((a + j : Nat) : Int) :: r := by
  unfold Perms.subsTo
  rw [List.range_succ, List.flatMap_append]
  simp
theorem Perms.subs_small : ∀ k ∈ List.range 3, ∀ a ∈ List.range 7, (Perms.subs k a).length ≤ 16 ∧ ∀ r ∈ Perms.subs k a, r.length = k := by decide +kernel
theorem Perms.subsTo_small : ∀ k ∈ List.range 2, ∀ a ∈ List.range 6, ∀ j ∈ List.range 5, a + j ≤ 4 → (Perms.subsTo k a j).length ≤ 16 := by decide +kernel
theorem own_int_one (w : World) (x : Int) : OwnInts (w.alloc (.cells #[.int .i64 x] 3)) w.heap.size (.slice (some ⟨w.heap.size, 0, none⟩) 1 1) [x] :=
  World.ownsRow_lit (size := 1) w #[.int .i64 x] 1 (Nat.le_refl _) (by unfold maxLen; omega) rfl
def SubsAt (k : Nat) : Prop := ∀ (a : Nat) (w : World) (Q : Ending → World → Prop), a ≤ 5 → (∀ v w', OwnRows w' w.heap.size w'.heap.size v (Perms.subs k a) → Below w.heap.size w w' → Q (.returned v) w') → Calls Tryz.prog 101 #[.int .i64 a, .int .i64 4, .int .i64 k] w Q
set_option maxHeartbeats 800000 in
theorem subs_zero : SubsAt 0 := by
  intro a w Q ha hQ
  have H := Lib.hid hQ; clear hQ
  have o0 := own_empty w
  have b0 := below_alloc w (.cells #[] 3)
  have r0 := own_rows_one (OwnInts.mono o0 (Nat.le_refl _)) b0.size
  have b1 := b0.alloc b0.size (.cells #[.slice (some ⟨w.heap.size, 0, none⟩) 0 0] 36)
  have h2 := H.out _ _ r0.tight b1
  rw [World.size_alloc] at h2
  have h3 := Lib.hid h2
  clear h2 r0
  show Calls Tryz.prog 101 #[.int .i64 a, .int .i64 4, .int .i64 0] w Q
  go_enter Tryz.func101, Tryz.ntmps101
  go_wp2_with fail
  exact h3.out
set_option maxHeartbeats 3200000 in
theorem subs_succ {k : Nat} (hk : k ≤ 1) (ih : SubsAt k) : SubsAt (k + 1) := by
  intro a w Q ha hQ
  have H := Lib.hid hQ; clear hQ
  have IH := Lib.hid ih; clear ih
  have hk1 : ((k + 1 : Nat) : Int) - 1 = (k : Int) := by omega
  have hk0 : (((k + 1 : Nat) : Int) == 0) = false := by rw [beq_eq_false_iff_ne]; omega
  obtain ⟨kk, hkk⟩ : ∃ kk : Int, kk = ((k + 1 : Nat) : Int) := ⟨_, rfl⟩
  rw [← hkk] at hk1 hk0 ⊢
  clear hkk
  go_enter Tryz.func101, Tryz.ntmps101
  go_wp2_with fail
  have o0 := own_outer_empty w
  have b0 := below_alloc w (.cells #[] 36)
  have r0 := Lib.hid (Rows.nil (w.alloc (.cells #[] 36)) w.heap.size (w.alloc (.cells #[] 36)).heap.size)
  go_loopg [7, 8] (4 - a) (fun gg u7 u8 wr => ∃ (j go n cap : Nat) (us : List Value), u8 = .int .i64 ((a + j : Nat) : Int) ∧ u7 = .slice (some ⟨go, 0, none⟩) n cap ∧ Own wr w.heap.size 36 (.slice (some ⟨go, 0, none⟩) n cap) us ∧ Hid (Rows wr w.heap.size wr.heap.size us (Perms.subsTo k a j)) ∧ Below w.heap.size w wr ∧ j + gg ≤ 4 - a ∧ 4 - a ≤ j + gg)
  case atStart => exact ⟨0, w.heap.size, 0, 0, [], by simp, rfl, o0, r0, b0, by omega, by omega⟩
  case round =>
    obtain ⟨j, go, n, cap, us, rfl, rfl, oj, rj, bj, hm1, hm2⟩ := hrel
    obtain ⟨gk1, hgk1⟩ : ∃ g, g = gk := ⟨_, rfl⟩
    obtain ⟨aj, haj⟩ : ∃ aj : Nat, aj = a + j := ⟨_, rfl⟩
    rw [← haj]
    have haj1 : aj ≤ a + j ∧ a + j ≤ aj := by omega
    have haj' := Lib.hid haj
    clear haj
    by_cases hj : j < 4 - a
    · have hjI : (aj : Int) < 4 := by omega
      have hst := Lib.hid (Perms.subsTo_step k a j)
      have hrs := Perms.subs_small k (List.mem_range.2 (by omega)) (aj + 1) (List.mem_range.2 (by omega))
      have hts := Perms.subsTo_small k (List.mem_range.2 (by omega)) a (List.mem_range.2 (by omega)) j (List.mem_range.2 (by omega)) (by omega)
      have hj4 : j + a < 4 := by omega
      obtain ⟨hrs1, hrs2⟩ := hrs
      have hrs2' := Lib.hid hrs2
      clear hrs2
      have hgo := (Own.lt oj rfl)
      go_wp2_with fail
      refine IH.out (aj + 1) wr _ (by omega) ?_
      intro v2 w2 o2 b2
      obtain ⟨R, hR⟩ : ∃ R, R = Perms.subs k (aj + 1) := ⟨_, rfl⟩
      rw [← hR] at o2 hrs1 hrs2'
      have hR' := Lib.hid hR
      clear hR
      obtain ⟨aR, cR, rfl, _, _, _⟩ := o2.form
      have bj2 := bj.trans (b2.mono bj.size)
      have oj2 := Own.below oj b2
      have rj2 := Lib.hid ((rj.out.below b2).tight)
      have rj3 : Hid (Rows w2 w.heap.size w2.heap.size us (Perms.subsTo k a j ++ (R.take 0).map fun r => ((aj : Nat) : Int) :: r)) := Lib.hid (by rw [List.take_zero, List.map_nil, List.append_nil]; exact rj2.out)
      have o2' := Lib.hid o2
      have hsz2 := b2.size
      obtain ⟨WR0, hWR0⟩ : ∃ z, z = wr.heap.size := ⟨_, rfl⟩
      obtain ⟨W2, hW2⟩ : ∃ z, z = w2.heap.size := ⟨_, rfl⟩
      rw [← hWR0, ← hW2] at o2'
      have hgo2 : go < WR0 ∨ W2 ≤ go := .inl (by omega)
      have hs22 : W2 ≤ w2.heap.size := by omega
      clear o2 rj2 hWR0 hW2
      go_wp2_with fail
      go_loopg [7, 29] R.length (fun gg u7 u29 wr2 => ∃ (t go n cap : Nat) (us : List Value), u29 = .int .i64 t ∧ u7 = .slice (some ⟨go, 0, none⟩) n cap ∧ Own wr2 w.heap.size 36 (.slice (some ⟨go, 0, none⟩) n cap) us ∧ Hid (Rows wr2 w.heap.size wr2.heap.size us (Perms.subsTo k a j ++ (R.take t).map fun r => ((aj : Nat) : Int) :: r)) ∧ Hid (OwnRows wr2 WR0 W2 (.slice aR R.length cR) R) ∧ (go < WR0 ∨ W2 ≤ go) ∧ Below w.heap.size w wr2 ∧ W2 ≤ wr2.heap.size ∧ t + gg ≤ R.length ∧ R.length ≤ t + gg)
      case atStart => exact ⟨0, go, n, cap, us, rfl, rfl, oj2, rj3, o2', hgo2, bj2, hs22, by omega, by omega⟩
      case round =>
        obtain ⟨t, go, n, cap, us, rfl, rfl, oj, rj, oR, hgo, bj, hs2, ht1, ht2⟩ := hrel
        by_cases ht : t < R.length
        · have htI : (t : Int) < R.length := by omega
          obtain ⟨b7, f7, u, x, e7, hx, hcx, hux⟩ := oR.out.at.cell ht
          subst e7
          obtain ⟨ax, cx, rfl, _, _, _⟩ := hux.form
          have hux' := Lib.hid hux
          have hxl := hrs2'.out x (List.mem_of_getElem? hx.out)
          have hxl2 : x.length ≤ 2 := by omega
          have hul : us.length ≤ 40 := by
            rw [rj.out.1, List.length_append, List.length_map, List.length_take]
            omega
          clear hxl hux
          have hst3 : Hid (Perms.subsTo k a j ++ (R.take (t + 1)).map (fun r => ((aj : Nat) : Int) :: r) = (Perms.subsTo k a j ++ (R.take t).map fun r => ((aj : Nat) : Int) :: r) ++ [(aj : Int) :: x]) := Lib.hid (by
            rw [List.take_add_one, hx.out, List.map_append, List.append_assoc]; rfl)
          have hx9 := Lib.hid (hux'.out.below (below_alloc wr (.cells #[.int .i64 (aj : Int)] 3)))
          have hB9 : w.heap.size ≤ wr.heap.size := bj.size
          go_wp2_with (first
            | (at_builtin; refine app_ints rfl (.tmp 35) (.tmp 36) rfl rfl (own_int_one wr (aj : Int)) rfl hx9.out (by show 1 + x.length ≤ 17592186044416; omega) (by simp) ?_; intro v4 w4 o4 g4; change World.grownBy _ w4 (some wr.heap.size) at g4; obtain ⟨y4, hy4⟩ : ∃ y4, y4 = [(aj : Int)] ++ x := ⟨_, rfl⟩; rw [← hy4] at o4; have hy4' := Lib.hid hy4; clear hy4; obtain ⟨ao4, ca4, rfl, la4, lc4, cc4⟩ := Own.form o4; have b4 : Below wr.heap.size wr w4 := (below_alloc wr _).grown g4 (by simp) (by intro k hk; cases hk; exact Nat.le_refl _); have hou4 := Own.below (Own.below oj b4) (below_alloc w4 (.cells #[.slice ao4 (ints y4).length ca4] 36)); have bw4 : w.heap.size ≤ w4.heap.size := Nat.le_trans bj.size b4.size)
            | (at_builtin; refine app_val rfl (.tmp 33) (.tmp 38) rfl rfl hou4 rfl (cell_new _ _ _) rfl (by omega) (by simp; omega) ?_; intro go5 cap5 w5 o5 g5 n5))
          have b45 := b4.alloc b4.size (.cells #[.slice ao4 (ints y4).length ca4] 36)
          have bw5 := (bj.trans (b45.mono bj.size)).grown g5 (by simp; omega) (fun b hb => by cases hb; exact (Own.lt hou4 rfl).1)
          have hs5 := g5.size
          have hs4 := b4.size
          simp at hs5
          have hr4 := (rj.out.below b45).push (xs := y4) (OwnInts.mono (OwnInts.below o4 (below_alloc w4 _)) bj.size) (fun b hb => (Own.lt o4 hb).1)
          rw [hy4'.out] at hr4
          change Rows _ _ _ _ (_ ++ [(aj : Int) :: x]) at hr4
          rw [← hst3.out, ← hy4'.out] at hr4
          have hr5 := Lib.hid ((hr4.outer hou4 g5).tight)
          have hR5 := Lib.hid ((oR.out.below b45).kept (w' := w5) (fun k h1 h2 h3 => g5.block k h3 (fun e => by cases e; omega)))
          have hgo5 : go5 < WR0 ∨ W2 ≤ go5 := by
            rcases n5 with h | h
            · rw [h]; exact hgo
            · right; simp at h; omega
          have hs25 : W2 ≤ w5.heap.size := by omega
          clear hr4
          go_roundg (gk - 1)
          case measure => omega
          case rel => exact ⟨t + 1, go5, _, cap5, _, by go_num, rfl, o5, hr5, hR5, hgo5, bw5, hs25, by omega, by omega⟩
        · have hte : t = R.length := by omega
          have hrj : Hid (Rows wr w.heap.size wr.heap.size us (Perms.subsTo k a (j + 1))) := Lib.hid (by
            have h := rj.out
            rw [hte, List.take_length, hR'.out, haj'.out] at h
            rw [hst.out]
            exact h)
          go_wp2_with fail
          go_roundg (gk1 - 1)
          case measure => omega
          case rel => exact ⟨j + 1, go, n, cap, us, by go_num, rfl, oj, hrj, bj, by omega, by omega⟩
    · have hje : j = 4 - a := by omega
      have how := Lib.hid (rj.out.whole oj (Own.inBlk oj))
      have hQ2 : Hid (Q (.returned (.slice (some ⟨go, 0, none⟩) n cap)) wr) := Lib.hid (H.out _ wr (by
        have h := how.out
        rw [hje] at h
        exact h) bj)
      go_wp2_with fail
      exact hQ2.out
theorem subs_two : SubsAt 2 := subs_succ (k := 1) (by omega) (subs_succ (k := 0) (by omega) subs_zero)
end Go.Proofs.YtdjdagcgodpgdaaGreat
