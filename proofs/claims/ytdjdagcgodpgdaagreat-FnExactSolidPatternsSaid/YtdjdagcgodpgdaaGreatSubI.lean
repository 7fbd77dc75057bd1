/-
  The subsets of four points, as the program lists them.
-/
import Derived.Test.YtdjdagcgodpgdaaGreatSubS
import Derived.Test.YtdjdagcgodpgdaaGreatIsort
set_option linter.unusedVariables false
namespace Go.Proofs.YtdjdagcgodpgdaaGreat
open Go.RowKit

def Perms.bitRow (s i : Nat) : List Int := ((List.range i).filter fun (a : Nat) => decide (s / 2 ^ a % 2 = 1)).map fun (a : Nat) => (a : Int)
def Perms.bitTo (s : Nat) : List (List Int) := ((List.range s).map fun t => Perms.bitRow t 4).filter fun r => decide (r.length = 2)
theorem Perms.bits_all : Perms.isort (Perms.bitTo 16) = Perms.subs 2 0 := by decide +kernel
theorem Perms.bitTo_small : ∀ s ∈ List.range 17, (Perms.bitTo s).length ≤ 6 := by decide +kernel
theorem Perms.bitRow_step (s i : Nat) : Perms.bitRow s (i + 1) = if s / 2 ^ i % 2 = 1 then Perms.bitRow s i ++ [(i : Int)] else Perms.bitRow s i := by
  unfold Perms.bitRow
  rw [List.range_succ, List.filter_append]
  by_cases h : s / 2 ^ i % 2 = 1
  · simp [h]
  · simp [h]
theorem Perms.bitTo_step (s : Nat) : Perms.bitTo (s + 1) = if (Perms.bitRow s 4).length = 2 then Perms.bitTo s ++ [Perms.bitRow s 4] else Perms.bitTo s := by
  unfold Perms.bitTo
  rw [List.range_succ, List.map_append, List.filter_append]
  by_cases h : (Perms.bitRow s 4).length = 2
  · simp [h]
  · simp [h]
theorem Perms.bitRow_len (s i : Nat) : (Perms.bitRow s i).length ≤ i := by
  unfold Perms.bitRow
  rw [List.length_map]
  have := List.length_filter_le (fun (a : Nat) => decide (s / 2 ^ a % 2 = 1)) (List.range i)
  rw [List.length_range] at this
  exact this
theorem and1 (n : Int) : bits .and .i64 n 1 = n % 2 := by
  have h1 : (BitVec.ofInt 64 1).toNat = 2 ^ 1 - 1 := by decide
  have key : (BitVec.ofInt 64 n &&& BitVec.ofInt 64 1).toNat = (n % ((2 ^ 64 : Nat) : Int)).toNat % 2 ^ 1 := by
    rw [BitVec.toNat_and, BitVec.toNat_ofInt, h1, Nat.and_two_pow_sub_one_eq_mod]
  show IntKind.i64.wrap ((BitVec.ofInt 64 n &&& BitVec.ofInt 64 1).toNat : Nat) = n % 2
  rw [key, IntKind.wrap_i64]
  omega
theorem bit_at (s i : Nat) : bits .and .i64 ((s : Int) / 2 ^ i) 1 = ((s / 2 ^ i % 2 : Nat) : Int) := by
  rw [and1, Int.natCast_emod, Int.natCast_ediv, Int.natCast_pow]
  rfl
set_option maxHeartbeats 3200000 in
theorem subsetsOf_c {w : World} {Q : Ending → World → Prop}
    (hQ : ∀ v w', OwnRows w' w.heap.size w'.heap.size v (Perms.subs 2 0) → Below w.heap.size w w' → Q (.returned v) w') :
    Calls Tryz.prog 86 #[.int .i64 4, .int .i64 2] w Q := by
  have H := Lib.hid hQ; clear hQ
  go_enter Tryz.func86, Tryz.ntmps86
  go_wp2_with fail
  have o0 := own_outer_empty w
  have b0 := below_alloc w (.cells #[] 36)
  have r0 := Lib.hid (Rows.nil (w.alloc (.cells #[] 36)) w.heap.size (w.alloc (.cells #[] 36)).heap.size)
  go_loopg [5, 27] 16 (fun gg u5 u27 wr => ∃ (s : Nat) (us : List Value), u27 = .int .i64 s ∧ Own wr w.heap.size 36 u5 us ∧ Hid (Rows wr w.heap.size wr.heap.size us (Perms.bitTo s)) ∧ Below w.heap.size w wr ∧ s + gg = 16)
  case atStart => exact ⟨0, [], rfl, o0, r0, b0, rfl⟩
  case round =>
    obtain ⟨s, us, rfl, oj, rj, bj, hs⟩ := hrel
    obtain ⟨gk1, hgk1⟩ : ∃ g, g = gk := ⟨_, rfl⟩
    obtain ⟨a5, c5, rfl, _, _, _⟩ := Own.form oj
    by_cases hs16 : s < 16
    · have hsI : (s : Int) < 16 := by omega
      have hts := Perms.bitTo_small s (List.mem_range.2 (by omega))
      have hul : us.length ≤ 6 := by rw [rj.out.1]; exact hts
      go_wp2_with fail
      have o1 := own_empty wr
      have b1 := below_alloc wr (.cells #[] 3)
      obtain ⟨V, hV⟩ : ∃ V, V = wr := ⟨_, rfl⟩
      have BJ : Below w.heap.size w V := by rw [hV]; exact bj
      have RJ : Hid (Rows V w.heap.size V.heap.size us (Perms.bitTo s)) := by rw [hV]; exact rj
      have OJ : Own V w.heap.size 36 (.slice a5 us.length c5) us := by rw [hV]; exact oj
      have b1' : Below V.heap.size V (wr.alloc (.cells #[] 3)) := by rw [hV]; exact b1
      have o1' : OwnInts (wr.alloc (.cells #[] 3)) V.heap.size (.slice (some ⟨wr.heap.size, 0, none⟩) 0 0) [] := by rw [hV]; exact o1
      clear hV
      go_loopg [7, 32] 4 (fun gg u7 u32 w2 => ∃ (i : Nat), u32 = .int .i64 i ∧ OwnInts w2 V.heap.size u7 (Perms.bitRow s i) ∧ Below V.heap.size V w2 ∧ i + gg = 4)
      case atStart => exact ⟨0, rfl, o1', b1', rfl⟩
      case round =>
        obtain ⟨i, rfl, oi, bi, hi⟩ := hrel
        obtain ⟨a7, c7, rfl, _, _, _⟩ := Own.form oi
        have hbl := Perms.bitRow_len s i
        by_cases hi4 : i < 4
        · have hiI : (i : Int) < 4 := by omega
          have hst := Perms.bitRow_step s i
          by_cases hb : s / 2 ^ i % 2 = 1
          · rw [if_pos hb] at hst
            have hst' := Lib.hid hst
            clear hst
            have hbit : bits .and .i64 ((s : Int) / 2 ^ i) 1 = 1 := by rw [bit_at, hb]; rfl
            clear hb
            go_wp2_with (at_builtin; refine app_int rfl (.tmp 40) (.tmp 42) rfl rfl (OwnInts.below oi (below_alloc wr _)) rfl (cell_new _ _ _) (by omega) (by have := bi.size; simp; omega) ?_; intro v3 w3 o3 g3)
            rw [← hst'.out] at o3
            have bi3 := (bi.alloc bi.size (.cells #[.int .i64 (i : Int)] 3)).grown g3 (by have := bi.size; simp; omega) (fun b hb => (Own.lt oi hb).1)
            go_roundg (gk - 1)
            case measure => omega
            case rel => exact ⟨i + 1, by go_num, o3, bi3, by omega⟩
          · rw [if_neg hb] at hst
            have hst' := Lib.hid hst
            have hb0 : s / 2 ^ i % 2 = 0 := by omega
            have hbit : bits .and .i64 ((s : Int) / 2 ^ i) 1 = 0 := by rw [bit_at, hb0]; rfl
            have oi2 : Hid (OwnInts wr V.heap.size (.slice a7 (ints (Perms.bitRow s i)).length c7) (Perms.bitRow s (i + 1))) := Lib.hid (by rw [hst'.out]; exact oi)
            clear hst hb hb0
            go_wp2_with fail
            go_roundg (gk - 1)
            case measure => omega
            case rel => exact ⟨i + 1, by go_num, oi2.out, bi, by omega⟩
        · obtain rfl : i = 4 := by omega
          have hst := Perms.bitTo_step s
          have oj2 := Own.below OJ bi
          by_cases hl2 : (Perms.bitRow s 4).length = 2
          · rw [if_pos hl2] at hst
            have hst' := Lib.hid hst
            have hl2I : ((ints (Perms.bitRow s 4)).length : Int) = 2 := by rw [ints_len, hl2]; rfl
            obtain ⟨y, hy⟩ : ∃ y, y = Perms.bitRow s 4 := ⟨_, rfl⟩
            rw [← hy] at oi hst' hl2I ⊢
            have hone : Hid (∀ y' ∈ [Value.slice a7 (ints y).length c7], y'.oneCell' = true) := Lib.hid (fun y' hy' => by rw [List.mem_singleton] at hy'; rw [hy']; rfl)
            have ba := below_alloc wr (.cells #[.slice a7 (ints y).length c7] 36)
            have oj3 := Own.below oj2 ba
            have hr3 := row_one wr (.slice a7 (ints y).length c7) 36
            have bj3 := (BJ.trans (bi.mono BJ.size)).trans (ba.mono (BJ.trans (bi.mono BJ.size)).size)
            have oy := Lib.hid (OwnInts.below oi ba)
            have rj3 := Lib.hid ((RJ.out.below bi).below ba)
            clear hl2 hst hy
            clear oj2 ba
            go_wp2_with (at_builtin; refine app_outer rfl (.tmp 49) (.tmp 51) rfl rfl oj3 rfl hr3 hone.out (by show us.length + 1 ≤ 1099511627776; omega) bj3.size ?_; intro v3 w3 o3 g3)
            have rj4 := Lib.hid ((((rj3.out).push (xs := y) (OwnInts.mono oy.out BJ.size) (fun b hb => (Own.lt oy.out hb).1)).outer oj3 g3).tight)
            have bj4 := bj3.grown g3 (by have := BJ.size; have := bi.size; simp; omega) (fun b hb => (Own.lt oj3 hb).1)
            rw [← hst'.out] at rj4
            go_roundg (gk1 - 1)
            case measure => omega
            case rel => exact ⟨s + 1, _, by go_num, o3, rj4, bj4, by omega⟩
          · rw [if_neg hl2] at hst
            have hst' := Lib.hid hst
            have hl2I : ((ints (Perms.bitRow s 4)).length : Int) ≠ 2 := by rw [ints_len]; omega
            have rj4 : Hid (Rows wr w.heap.size wr.heap.size us (Perms.bitTo (s + 1))) := Lib.hid (by rw [hst'.out]; exact (RJ.out.below bi).tight)
            have bj4 := BJ.trans (bi.mono BJ.size)
            clear hst hl2
            go_wp2_with fail
            go_roundg (gk1 - 1)
            case measure => omega
            case rel => exact ⟨s + 1, _, by go_num, oj2, rj4, bj4, by omega⟩
    · obtain rfl : s = 16 := by omega
      have hown : Hid (OwnRows wr w.heap.size wr.heap.size (.slice a5 us.length c5) (Perms.bitTo 16)) := Lib.hid (rj.out.whole oj (Own.inBlk oj))
      have hl6 : (Perms.bitTo 16).length = 6 := by decide +kernel
      clear oj rj
      have bjs := bj.size
      have hl6' : 0 < (Perms.bitTo 16).length := by omega
      go_wp2_with fail
      refine sortRows_c hown.out bjs hl6' (by omega) ?_
      intro w2 yss hp2 hs2 ho2 hb2
      obtain rfl : yss = Perms.subs 2 0 := by rw [← Perms.bits_all]; exact sorted_unique (hp2.trans (Perms.isort_perm _).symm) hs2 (Perms.isort_sorted _)
      have h3 := Lib.hid (H.out _ _ ho2 (bj.trans hb2))
      clear hp2 hs2 ho2
      go_wp2_with fail
      exact h3.out
end Go.Proofs.YtdjdagcgodpgdaaGreat
