/-
  The reference's generators of the corners of a cube.
-/
import Derived.Test.YtdjdagcgodpgdaaGreatPairS
set_option linter.unusedVariables false
namespace Go.Proofs.YtdjdagcgodpgdaaGreat
open Go.RowKit

def Perms.corX (k : Nat) : Int := ((k % 2 : Nat) : Int)
def Perms.corY (k : Nat) : Int := ((k / 2 % 2 : Nat) : Int)
def Perms.corZ (k : Nat) : Int := ((k / 4 : Nat) : Int)
def Perms.corA (k : Nat) : Int := (1 - Perms.corY k) + 2 * Perms.corX k + 4 * Perms.corZ k
def Perms.corB (k : Nat) : Int := Perms.corX k + 2 * (1 - Perms.corZ k) + 4 * Perms.corY k
def Perms.corM (k : Nat) : Int := Perms.corX k + 2 * Perms.corY k + 4 * (1 - Perms.corZ k)
def Perms.corL (f : Nat → Int) (j : Nat) : List Int := (List.range j).map f
theorem Perms.corL_step (f : Nat → Int) (j : Nat) : Perms.corL f (j + 1) = Perms.corL f j ++ [f j] := by
  unfold Perms.corL
  rw [List.range_succ, List.map_append]; rfl
theorem Perms.corL_len (f : Nat → Int) (j : Nat) : (Perms.corL f j).length = j := by simp [Perms.corL]
theorem l10Corner_c {x y z : Int} {w : World} {Q : Ending → World → Prop} (hx : -10 ≤ x ∧ x ≤ 10) (hy : -10 ≤ y ∧ y ≤ 10) (hz : -10 ≤ z ∧ z ≤ 10)
    (hQ : Q (.returned (.int .i64 (x + 2 * y + 4 * z))) w) :
    Calls Tryz.prog 83 #[.int .i64 x, .int .i64 y, .int .i64 z] w Q := by
  have H := Lib.hid hQ; clear hQ
  obtain ⟨hx1, hx2⟩ := hx
  obtain ⟨hy1, hy2⟩ := hy
  obtain ⟨hz1, hz2⟩ := hz
  go_enter Tryz.func83, Tryz.ntmps83
  go_wp2_with fail
  exact H.out
set_option maxHeartbeats 3200000 in
theorem l10Corners_c {w : World} {Q : Ending → World → Prop}
    (hQ : ∀ v w', OwnRows w' w.heap.size w'.heap.size v [Perms.corL Perms.corA 8, Perms.corL Perms.corB 8, Perms.corL Perms.corM 8] → Below w.heap.size w w' → Q (.returned v) w') :
    Calls Tryz.prog 54 #[] w Q := by
  have H := Lib.hid hQ; clear hQ
  go_enter Tryz.func54, Tryz.ntmps54
  go_wp2_with fail
  have oa0 := own_empty w
  have ba0 := below_alloc w (.cells #[] 3)
  have ob0 := own_empty (w.alloc (.cells #[] 3))
  have bb0 := ba0.alloc ba0.size (.cells #[] 3)
  have om0 := own_empty ((w.alloc (.cells #[] 3)).alloc (.cells #[] 3))
  have bm0 := bb0.alloc bb0.size (.cells #[] 3)
  have oa1 := Own.below (Own.below oa0 (below_alloc _ (.cells #[] 3))) (below_alloc _ (.cells #[] 3))
  have ob1 := Own.below ob0 (below_alloc _ (.cells #[] 3))
  have ob2 : OwnInts (((w.alloc (.cells #[] 3)).alloc (.cells #[] 3)).alloc (.cells #[] 3)) w.heap.size (.slice (some ⟨w.heap.size + 1, 0, none⟩) 0 0) [] := by
    have h := OwnInts.mono (B' := w.heap.size) ob1 (by simp)
    rwa [World.size_alloc] at h
  have om2 : OwnInts (((w.alloc (.cells #[] 3)).alloc (.cells #[] 3)).alloc (.cells #[] 3)) w.heap.size (.slice (some ⟨w.heap.size + 1 + 1, 0, none⟩) 0 0) [] := by
    have h := OwnInts.mono (B' := w.heap.size) om0 (by simp; omega)
    rwa [World.size_alloc, World.size_alloc] at h
  clear oa0 ob0 om0 ob1 ba0 bb0
  obtain ⟨W0, hW0⟩ : ∃ z, z = ((w.alloc (.cells #[] 3)).alloc (.cells #[] 3)).alloc (.cells #[] 3) := ⟨_, rfl⟩
  rw [← hW0] at oa1 ob2 om2 bm0 ⊢
  clear hW0
  go_loopg [1, 2, 3, 4] 8 (fun gg u1 u2 u3 u4 wr => ∃ (k ga ca gb cb gm cm : Nat), u4 = .int .i64 k ∧ u1 = .slice (some ⟨ga, 0, none⟩) k ca ∧ u2 = .slice (some ⟨gb, 0, none⟩) k cb ∧ u3 = .slice (some ⟨gm, 0, none⟩) k cm ∧ OwnInts wr w.heap.size (.slice (some ⟨ga, 0, none⟩) k ca) (Perms.corL Perms.corA k) ∧ OwnInts wr w.heap.size (.slice (some ⟨gb, 0, none⟩) k cb) (Perms.corL Perms.corB k) ∧ OwnInts wr w.heap.size (.slice (some ⟨gm, 0, none⟩) k cm) (Perms.corL Perms.corM k) ∧ ga ≠ gb ∧ ga ≠ gm ∧ gb ≠ gm ∧ Below w.heap.size w wr ∧ k + gg = 8)
  case atStart => exact ⟨0, _, 0, _, 0, _, 0, rfl, rfl, rfl, rfl, oa1, ob2, om2, by omega, by omega, by omega, bm0, rfl⟩
  case round =>
    obtain ⟨k, ga, ca, gb, cb, gm, cm, rfl, rfl, rfl, rfl, oa, ob, om, hab, ham, hbm, bw, hk⟩ := hrel
    by_cases hk8 : k < 8
    · have hkI : (k : Int) < 8 := by omega
      obtain ⟨x, hx⟩ : ∃ x : Nat, x = k % 2 := ⟨_, rfl⟩
      obtain ⟨y, hy⟩ : ∃ y : Nat, y = k / 2 % 2 := ⟨_, rfl⟩
      obtain ⟨z, hz⟩ : ∃ z : Nat, z = k / 4 := ⟨_, rfl⟩
      have hxI : (k : Int) % 2 = (x : Int) := by omega
      have hy2 : (k : Int) / 2 = ((k / 2 : Nat) : Int) := by omega
      have hyI : (k : Int) / 2 % 2 = (y : Int) := by omega
      have hzI : (k : Int) / 4 = (z : Int) := by omega
      have hx1 : x ≤ 1 := by omega
      have hy1 : y ≤ 1 := by omega
      have hz1 : z ≤ 1 := by omega
      have hsa : Hid (Perms.corL Perms.corA (k + 1) = Perms.corL Perms.corA k ++ [((1 : Int) - y) + 2 * x + 4 * z]) := Lib.hid (by
        rw [Perms.corL_step]; unfold Perms.corA Perms.corX Perms.corY Perms.corZ; rw [hx, hy, hz])
      have hsb : Hid (Perms.corL Perms.corB (k + 1) = Perms.corL Perms.corB k ++ [(x : Int) + 2 * (1 - (z : Int)) + 4 * y]) := Lib.hid (by
        rw [Perms.corL_step]; unfold Perms.corB Perms.corX Perms.corY Perms.corZ; rw [hx, hy, hz])
      have hsm : Hid (Perms.corL Perms.corM (k + 1) = Perms.corL Perms.corM k ++ [(x : Int) + 2 * y + 4 * (1 - (z : Int))]) := Lib.hid (by
        rw [Perms.corL_step]; unfold Perms.corM Perms.corX Perms.corY Perms.corZ; rw [hx, hy, hz])
      have hbs := bw.size
      have hgal := (Own.lt oa (k := ga) rfl).2
      have hgbl := (Own.lt ob (k := gb) rfl).2
      have hgml := (Own.lt om (k := gm) rfl).2
      have hla : (Perms.corL Perms.corA k).length ≤ 8 := by rw [Perms.corL_len]; omega
      have hlb : (Perms.corL Perms.corB k).length ≤ 8 := by rw [Perms.corL_len]; omega
      have hlm : (Perms.corL Perms.corM k).length ≤ 8 := by rw [Perms.corL_len]; omega
      clear hx hy hz hy2
      go_wp2_with (first
        | (go_at_call 83; refine l10Corner_c (by omega) (by omega) (by omega) ?_)
        | (at_builtin; refine app_int_val rfl (.tmp 22) (.tmp 28) rfl rfl (Own.below oa (below_alloc wr _)) rfl (cell_new _ _ _) rfl (by rw [ints_len]; omega) (by simp; omega) ?_; intro ga4 ca4 w4 oa4 g4 n4; have ob4 := Own.grown (Own.below ob (below_alloc wr _)) g4 (.inr (by intro e; cases e; exact hab rfl)); have om4 := Own.grown (Own.below om (below_alloc wr _)) g4 (.inr (by intro e; cases e; exact ham rfl)); have hs4 := g4.size; have bw4 := (bw.alloc bw.size _).grown g4 (by simp; omega) (fun b hb => by cases hb; exact (Own.lt oa (k := ga) rfl).1); have hs4' : wr.heap.size < w4.heap.size := (by simp at hs4; omega); have hab4 : ga4 ≠ gb := (by (rcases n4 with h | h); (rw [h]; exact hab); (simp at h; omega)); have ham4 : ga4 ≠ gm := (by (rcases n4 with h | h); (rw [h]; exact ham); (simp at h; omega)); have hga4 := (Own.lt oa4 (k := ga4) rfl).2)
        | (at_builtin; refine app_int_val rfl (.tmp 30) (.tmp 36) rfl rfl (Own.below ob4 (below_alloc w4 _)) rfl (cell_new _ _ _) rfl (by rw [ints_len]; omega) (by simp; omega) ?_; intro gb5 cb5 w5 ob5 g5 n5; have oa5 := Own.grown (Own.below oa4 (below_alloc w4 _)) g5 (.inr (by intro e; cases e; exact hab4 rfl)); have om5 := Own.grown (Own.below om4 (below_alloc w4 _)) g5 (.inr (by intro e; cases e; exact hbm rfl)); have hs5 := g5.size; have bw5 := (bw4.alloc bw4.size _).grown g5 (by simp; omega) (fun b hb => by cases hb; exact (Own.lt ob (k := gb) rfl).1); have hs5' : w4.heap.size < w5.heap.size := (by simp at hs5; omega); have hab5 : ga4 ≠ gb5 := (by (rcases n5 with h | h); (rw [h]; exact hab4); (simp at h; omega)); have hbm5 : gb5 ≠ gm := (by (rcases n5 with h | h); (rw [h]; exact hbm); (simp at h; omega)); have hgb5 := (Own.lt ob5 (k := gb5) rfl).2)
        | (at_builtin; refine app_int_val rfl (.tmp 38) (.tmp 44) rfl rfl (Own.below om5 (below_alloc w5 _)) rfl (cell_new _ _ _) rfl (by rw [ints_len]; omega) (by simp; omega) ?_; intro gm6 cm6 w6 om6 g6 n6; have oa6 := Own.grown (Own.below oa5 (below_alloc w5 _)) g6 (.inr (by intro e; cases e; exact ham4 rfl)); have ob6 := Own.grown (Own.below ob5 (below_alloc w5 _)) g6 (.inr (by intro e; cases e; exact hbm5 rfl)); have hs6 := g6.size; have bw6 := (bw5.alloc bw5.size _).grown g6 (by simp; omega) (fun b hb => by cases hb; exact (Own.lt om (k := gm) rfl).1); have ham6 : ga4 ≠ gm6 := (by (rcases n6 with h | h); (rw [h]; exact ham4); (simp at h; omega)); have hbm6 : gb5 ≠ gm6 := (by (rcases n6 with h | h); (rw [h]; exact hbm5); (simp at h; omega))))
      have oa7 : OwnInts w6 w.heap.size (.slice (some ⟨ga4, 0, none⟩) (k + 1) ca4) (Perms.corL Perms.corA (k + 1)) := by rw [hsa.out]; unfold OwnInts; rw [ints_append]; exact oa6
      have ob7 : OwnInts w6 w.heap.size (.slice (some ⟨gb5, 0, none⟩) (k + 1) cb5) (Perms.corL Perms.corB (k + 1)) := by rw [hsb.out]; unfold OwnInts; rw [ints_append]; exact ob6
      have om7 : OwnInts w6 w.heap.size (.slice (some ⟨gm6, 0, none⟩) (k + 1) cm6) (Perms.corL Perms.corM (k + 1)) := by rw [hsm.out]; unfold OwnInts; rw [ints_append]; exact om6
      go_roundg (gk - 1)
      case measure => omega
      case rel => exact ⟨k + 1, ga4, ca4, gb5, cb5, gm6, cm6, by go_num, rfl, rfl, rfl, oa7, ob7, om7, hab5, ham6, hbm6, bw6, by omega⟩
    · obtain rfl : k = 8 := by omega
      have hv : Rows wr w.heap.size wr.heap.size [.slice (some ⟨ga, 0, none⟩) 8 ca, .slice (some ⟨gb, 0, none⟩) 8 cb, .slice (some ⟨gm, 0, none⟩) 8 cm] [Perms.corL Perms.corA 8, Perms.corL Perms.corB 8, Perms.corL Perms.corM 8] := by
        refine ⟨rfl, fun q xs hq => ?_, ?_⟩
        · match q, hq with
          | 0, hq => cases hq; exact ⟨_, rfl, oa, Own.inBlk oa⟩
          | 1, hq => cases hq; exact ⟨_, rfl, ob, Own.inBlk ob⟩
          | 2, hq => cases hq; exact ⟨_, rfl, om, Own.inBlk om⟩
          | q + 3, hq => simp at hq
        · rw [Rows.pw]
          refine List.Pairwise.cons ?_ (List.Pairwise.cons ?_ (List.Pairwise.cons (fun _ h => by cases h) List.Pairwise.nil))
          · intro u hu
            rcases List.mem_cons.1 hu with rfl | hu
            · exact .inr (fun e => by cases e; exact hab rfl)
            · rw [List.mem_singleton] at hu
              subst hu
              exact .inr (fun e => by cases e; exact ham rfl)
          · intro u hu
            rw [List.mem_singleton] at hu
            subst hu
            exact .inr (fun e => by cases e; exact hbm rfl)
      have oo : Own (wr.alloc (.cells #[.slice (some ⟨ga, 0, none⟩) 8 ca, .slice (some ⟨gb, 0, none⟩) 8 cb, .slice (some ⟨gm, 0, none⟩) 8 cm] 36)) wr.heap.size 36 (.slice (some ⟨wr.heap.size, 0, none⟩) 3 3) [.slice (some ⟨ga, 0, none⟩) 8 ca, .slice (some ⟨gb, 0, none⟩) 8 cb, .slice (some ⟨gm, 0, none⟩) 8 cm] :=
        World.ownsRow_lit (size := 1) wr #[.slice (some ⟨ga, 0, none⟩) 8 ca, .slice (some ⟨gb, 0, none⟩) 8 cb, .slice (some ⟨gm, 0, none⟩) 8 cm] 3 (Nat.le_refl _) (by unfold maxLen; omega) rfl
      have ba := below_alloc wr (.cells #[.slice (some ⟨ga, 0, none⟩) 8 ca, .slice (some ⟨gb, 0, none⟩) 8 cb, .slice (some ⟨gm, 0, none⟩) 8 cm] 36)
      have oo2 := oo.mono bw.size
      have how := ((hv.below ba).tight).whole oo2 (Own.inBlk oo2)
      have h3 := Lib.hid (H.out _ _ how (bw.trans (ba.mono bw.size)))
      clear hv oo oo2 how
      go_wp2_with fail
      exact h3.out
end Go.Proofs.YtdjdagcgodpgdaaGreat
