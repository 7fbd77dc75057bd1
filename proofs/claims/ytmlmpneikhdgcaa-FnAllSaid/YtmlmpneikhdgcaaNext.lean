/-
  The next necklace.
-/
import Derived.Test.YtmlmpneikhdgcaaGrow4
import Derived.Test.YtmlmpneikhdgcaaBelow
set_option linter.unusedVariables false
namespace Go.Proofs.Ytmlmpneikhdgcaa
open Go.RowKit

/-- The first necklace above a word. -/
def Words.nextOk (xs : List Int) (k : Int) : Bool := Words.okW xs && (decide (1 ≤ k ∧ k ≤ 4) && xs.all fun x => decide (x < k))
def Words.nextO (xs : List Int) (k : Int) : Option (List Int) := if Words.nextOk xs k = true then (Words.vis k.toNat xs xs.length [] false).head? else none
def Words.nextW (xs : List Int) (k : Int) : List Int := (Words.nextO xs k).getD []
def Words.nextB (xs : List Int) (k : Int) : Bool := (Words.nextO xs k).isSome
theorem Words.vis_mem_len {k : Nat} {b : List Int} {r : Nat} {pre : List Int} {over : Bool} {w : List Int} (h : w ∈ Words.vis k b r pre over) : w.length = pre.length + r := by
  unfold Words.vis at h
  obtain ⟨h1, _⟩ := List.mem_filter.1 h
  obtain ⟨u, hu, rfl⟩ := List.mem_map.1 h1
  rw [List.length_append, (Perms.wordsN_mem.1 hu).1]
theorem Words.nextW_len (xs : List Int) (k : Int) : (Words.nextW xs k).length ≤ 10 := by
  unfold Words.nextW Words.nextO
  split
  · rename_i h
    unfold Words.nextOk at h
    simp only [Bool.and_eq_true] at h
    have hl := Words.okW_len h.1
    cases hv : (Words.vis k.toNat xs xs.length [] false).head? with
    | none => simp
    | some z =>
      have := Words.vis_mem_len (List.mem_of_head? hv)
      simp at this
      simp
      omega
  · simp
set_option maxHeartbeats 1600000 in
theorem NextNecklace_i {va : Value} {xs : List Int} {k : Int} {w : World} {Q : Ending → World → Prop} (ha : IntsAt w va xs)
    (hQ : ∀ v w', OwnInts w' w.heap.size v (Words.nextW xs k) → Below w.heap.size w w' → Q (.returned (.tuple #[v, .bool (Words.nextB xs k)])) w') :
    Calls Try.prog 15 #[va, .int .i64 k] w Q := by
  have H := Lib.hid hQ; clear hQ
  have ha0 := Lib.hid ha
  obtain ⟨aa, ca, rfl, la, lca, cca⟩ := ha.form
  have bad : ∀ w', Below w.heap.size w w' → Words.nextOk xs k = false → Q (.returned (.tuple #[.slice none 0 0, .bool false])) w' := fun w' hb hf => by
    have e : Words.nextO xs k = none := by unfold Words.nextO; rw [if_neg (by rw [hf]; simp)]
    have := H.out (.slice none 0 0) w' (by unfold Words.nextW; rw [e]; exact Own.nil _ _ _) hb
    unfold Words.nextB at this
    rw [e] at this; exact this
  have bad' := Lib.hid bad
  clear bad
  go_enter Try.func15, Try.ntmps15
  go_wp2_with fail
  refine ColoringOk_i ha0.out ?_
  by_cases hok : Words.okW xs = true
  rotate_left
  · have hok2 : Words.okW xs = false := by simpa using hok
    have hf : Hid (Words.nextOk xs k = false) := Lib.hid (by unfold Words.nextOk; rw [hok2]; rfl)
    rw [hok2]
    clear hok hok2
    go_wp2_with fail
    exact bad'.out _ (Below.refl _ _) hf.out
  have hok' := Lib.hid hok
  obtain ⟨hl1, hl2⟩ := Words.okW_len hok
  rw [hok]
  clear hok
  by_cases hk : 1 ≤ k ∧ k ≤ 4
  rotate_left
  · have hd : Hid (decide (1 ≤ k ∧ k ≤ 4) = false) := Lib.hid (decide_eq_false hk)
    have hf : Hid (Words.nextOk xs k = false) := Lib.hid (by unfold Words.nextOk; rw [hd.out, Bool.false_and, Bool.and_false])
    clear hk
    go_wp2_with (go_at_call 52; refine isColors_i ?_; rw [hd.out])
    all_goals exact bad'.out _ (Below.refl _ _) hf.out
  have hd : Hid (decide (1 ≤ k ∧ k ≤ 4) = true) := Lib.hid (decide_eq_true hk)
  obtain ⟨hk1, hk4⟩ := hk
  go_wp2_with (go_at_call 52; refine isColors_i ?_; rw [hd.out])
  refine below_i ha0.out ?_
  intro w1 b1
  cases hb : xs.all fun x => decide (x < k) with
  | false =>
    have hf : Hid (Words.nextOk xs k = false) := Lib.hid (by unfold Words.nextOk; rw [hb, Bool.and_false, Bool.and_false])
    clear hb
    go_wp2_with fail
    exact bad'.out _ b1 hf.out
  | true =>
    have hno : Hid (Words.nextO xs k = (Words.vis k.toNat xs xs.length [] false).head?) := Lib.hid (by
      unfold Words.nextO; rw [if_pos (by unfold Words.nextOk; rw [hok'.out, hd.out, hb]; rfl)])
    clear hb
    have ha1 := ha0.out.below b1
    have hb1 := b1.size
    go_wp2_with (at_make; refine mk_ints rfl (.tmp 22) (.tmp 22) rfl rfl rfl xs.length rfl (by omega) ?_; intro w2 ho2 hb2 hs2)
    have hq1 : (w1.alloc (.cells #[.slice none 0 0] 22)).heap.size = w1.heap.size + 1 := by rw [World.size_alloc]
    have hbx : BoxAt (w1.alloc (.cells #[.slice none 0 0] 22)) w1.heap.size 22 (.slice none 0 0) := heap_alloc_new _ _
    have hbx2 := hbx.below hb2
    have hlow : Below w1.heap.size w1 w2 := (below_alloc w1 _).trans (hb2.mono (by rw [hq1]; omega))
    rw [hq1] at ho2 hs2
    have hG : GrowNext w1 w2 (.slice aa xs.length ca) xs w1.heap.size (w1.heap.size + 1) xs.length (List.replicate xs.length 0) :=
      ⟨OwnInts.mono ho2 (by omega), Nat.le_refl _, hbx2, ha1, rfl, hlow⟩
    have hG' := Lib.hid hG
    clear hG hbx hbx2 ho2 hs2 hb2 hq1 ha1
    go_wp2_with fail
    refine grow_next xs.length w1.heap.size (w1.heap.size + 1) xs.length 1 k _ _ false [] (List.replicate xs.length 0) xs _ w1 _ _ rfl rfl hk1 hk4 hl2 hl1 (by simp) (by simp) (by simp) (.inl ⟨rfl, rfl⟩) (by simp) (fun _ => by simp) hG'.out ?_ ?_
    · intro hv w3 cur3 _ _ hG3
      have hcell := hG3.box.cell
      have e : Words.nextO xs k = none := by rw [hno.out, hv]; rfl
      have hbw : Below w.heap.size w w3 := b1.trans (hG3.low.mono hb1)
      have h2 : ∀ w4, Drawn w3 w4 → Q (.returned (.tuple #[.slice none 0 0, .bool false])) w4 := fun w4 d4 => by
        have := H.out (.slice none 0 0) w4 (by unfold Words.nextW; rw [e]; exact Own.nil _ _ _) (hbw.trans (d4.below _))
        unfold Words.nextB at this
        rw [e] at this; exact this
      have h3 := Lib.hid h2
      clear h2 hG3 hv e
      go_wp2_with fail
      go_quiet (fail)
      go_wp2_with fail
      exact h3.out _ (Drawn.one w3 _)
    · intro z rest v w3 hv o3 bx3 b3
      have hz := Words.vis_mem_len (k := k.toNat) (b := xs) (r := xs.length) (pre := []) (over := false) (w := z) (by rw [hv]; simp)
      have hz1 : 1 ≤ z.length := by rw [hz]; simp; omega
      obtain ⟨ao, co, rfl, _, _, _⟩ := Own.form o3
      obtain ⟨g3, rfl, _, _⟩ := Own.head o3 (by rw [ints_len]; omega)
      have hcell := bx3.cell
      have e : Words.nextO xs k = some z := by rw [hno.out, hv]; rfl
      have hbw : Below w.heap.size w w3 := b1.trans (b3.mono hb1)
      have h2 : ∀ w4, Drawn w3 w4 → Q (.returned (.tuple #[.slice (some ⟨g3, 0, none⟩) (ints z).length co, .bool true])) w4 := fun w4 d4 => by
        have := H.out _ w4 (by unfold Words.nextW; rw [e]; exact Own.drawn (Own.mono o3 hb1) d4) (hbw.trans (d4.below _))
        unfold Words.nextB at this
        rw [e] at this; exact this
      have h3 := Lib.hid h2
      clear h2 hv e bx3
      go_wp2_with fail
      go_quiet (fail)
      go_wp2_with fail
      exact h3.out _ (Drawn.one w3 _)
end Go.Proofs.Ytmlmpneikhdgcaa
