/-
  The reference's makers of arguments: bytes and numbers out of a code.
-/
import Derived.Test.YtdjdagcgodpgdaaMem
set_option linter.unusedVariables false
namespace Go.Proofs.Ytdjdagcgodpgdaa
open Go.RowKit

theorem and255 (n : Int) : 0 ≤ bits .and .i64 n 255 ∧ bits .and .i64 n 255 ≤ 255 := by
  have h255 : (BitVec.ofInt 64 255).toNat = 2 ^ 8 - 1 := by decide
  have key : (BitVec.ofInt 64 n &&& BitVec.ofInt 64 255).toNat = (n % ((2 ^ 64 : Nat) : Int)).toNat % 2 ^ 8 := by
    rw [BitVec.toNat_and, BitVec.toNat_ofInt, h255, Nat.and_two_pow_sub_one_eq_mod]
  have e : bits .and .i64 n 255 = n % 256 := by
    show IntKind.i64.wrap ((BitVec.ofInt 64 n &&& BitVec.ofInt 64 255).toNat : Nat) = n % 256
    rw [key, IntKind.wrap_i64]
    omega
  rw [e]; omega

def bytes (bs : List Int) : List Value := bs.map (Value.int .u8)
def BytesAt (w : World) (v : Value) (bs : List Int) : Prop := RowAt w v (bytes bs)
/-- The bytes lie below block c. -/
def lowAt (v : Value) (c : Nat) : Prop := ∀ a n cap, v = .slice (some a) n cap → 0 < n → a.block < c
theorem BytesAt.low {w : World} {v : Value} {bs : List Int} (hb : BytesAt w v bs) : lowAt v w.heap.size := by
  obtain ⟨ao, cap, e1, e2, e3, e0, e4⟩ := hb
  intro a n cap' e hn
  rw [e1] at e
  simp only [Value.slice.injEq] at e
  obtain ⟨e5, e6, _⟩ := e
  obtain ⟨b, off, h1, h2⟩ := e4 0 _ (List.getElem?_eq_getElem (by omega))
  rw [e5] at h1
  obtain rfl := Option.some.inj h1
  exact World.block_lt_of_cell? w _ h2
theorem BytesAt.grown {w w' : World} {v : Value} {bs : List Int} (hb : BytesAt w v bs) {c : Nat} (hl : lowAt v c) {row : Option Nat} (hg : w.grownBy w' row) (hr : ∀ k, row = some k → c ≤ k) : BytesAt w' v bs := by
  obtain ⟨ao, cap, e1, e2, e3, e0, e4⟩ := hb
  refine ⟨ao, cap, e1, e2, e3, e0, fun k x hk => ?_⟩
  obtain ⟨b, off, h1, h2⟩ := e4 k x hk
  subst h1
  have hlt := hl _ _ _ e1 (by have := (List.getElem?_eq_some_iff.1 hk).1; omega)
  refine ⟨b, off, rfl, hg.cell h2 ?_⟩
  intro e
  have := hr _ e.symm
  simp at hlt this
  omega
/-- The cursor: three cells. -/
def Cur (w : World) (c : Nat) : Prop := ∃ (v : Value) (bs : List Int) (i h : Int), w.heap[c]? = some (.cells #[v, .int .i64 i, .int .i64 h] 82 (0, 0)) ∧ BytesAt w v bs ∧ 0 ≤ i ∧ lowAt v c

set_option maxHeartbeats 400000 in
theorem l01New_c {v : Value} {bs : List Int} {w : World} {Q : Ending → World → Prop} (hb : BytesAt w v bs)
    (hQ : ∀ w', Cur w' w.heap.size → Below w.heap.size w w' → w.heap.size < w'.heap.size → Q (.returned (.pointer (some ⟨w.heap.size, 0, none⟩))) w') :
    Calls Try.prog 72 #[v] w Q := by
  have H := Lib.hid hQ; clear hQ
  have hb' := hb
  obtain ⟨ao, ca, rfl, la, lca, cca⟩ := hb'.form
  rw [show (bytes bs).length = bs.length from by simp [bytes]] at *
  go_enter Try.func72, Try.ntmps72
  go_wp2
  go_loopg [3, 4] bs.length (fun g x i wr => Hid (wr = w) ∧ ∃ (h : Int) (j : Nat), x = .int .i64 h ∧ i = .int .i64 j ∧ j + g ≤ bs.length ∧ bs.length ≤ j + g)
  case atStart => exact ⟨Lib.hid rfl, _, 0, rfl, rfl, by omega, by omega⟩
  case round =>
    obtain ⟨hw, h, j, rfl, rfl, hk1, hk2⟩ := hrel
    obtain rfl := hw.out
    clear hw
    have hfin : Hid (Q (.returned (.pointer (some ⟨wr.heap.size, 0, none⟩))) (wr.alloc (.cells #[.slice ao bs.length ca, .int .i64 0, .int .i64 h] 82))) :=
      Lib.hid (H.out _ ⟨_, bs, 0, _, heap_alloc_new _ _, hb.below ((Below.refl _ _).alloc (Nat.le_refl _) _), by omega, hb.low⟩ ((Below.refl _ _).alloc (Nat.le_refl _) _) (by simp))
    by_cases hj : j < bs.length
    · by_cases h4 : (j : Int) < 4000
      · have i1 : (j : Int) < bs.length := by omega
        obtain ⟨b, off, x, rfl, hx, hc⟩ := RowAt.cell hb (k := j) (by simp [bytes]; exact hj)
        have hx' := hx.out
        simp only [bytes, List.getElem?_map, Option.map_eq_some_iff] at hx'
        obtain ⟨y, _, rfl⟩ := hx'
        clear hx
        go_wp2
        go_roundg (gk - 1)
        case measure => omega
        case rel => exact ⟨Lib.hid rfl, _, j + 1, rfl, by go_num, by omega, by omega⟩
      · have i1 : (j : Int) < bs.length := by omega
        have h4' : decide ((j : Int) < 4000) = false := decide_eq_false h4
        clear h4
        go_wp2
        exact hfin.out
    · go_wp2
      exact hfin.out
theorem Cur.cells {w : World} {c : Nat} (h : Cur w c) : ∃ (v : Value) (bs : List Int) (i h : Int), w.cell? ⟨c, 0, none⟩ = some v ∧ w.cell? ⟨c, 1, none⟩ = some (.int .i64 i) ∧ w.cell? ⟨c, 2, none⟩ = some (.int .i64 h) ∧ (∀ k, w.frozen? ⟨c, k, none⟩ = false) ∧ BytesAt w v bs ∧ 0 ≤ i ∧ c < w.heap.size := by
  obtain ⟨v, bs, i, h, h1, h2, h3⟩ := h
  refine ⟨v, bs, i, h, by rw [cell_of_row w c 0 _ _ _ h1]; rfl, by rw [cell_of_row w c 1 _ _ _ h1]; rfl, by rw [cell_of_row w c 2 _ _ _ h1]; rfl, fun k => ?_, h2, h3.1, (Array.getElem?_eq_some_iff.1 h1).1⟩
  simp [World.frozen?, h1]
theorem other_cell {w : World} {a a' : Addr} {x y : Value} (h : w.cell? a = some x) (h' : w.cell? a' = some y) (hne : x ≠ y) (u : Value) : (w.setCell a' u).cell? a = some x := by
  rw [World.cell?_setCell_other _ _ _ _ (fun e => ?_)]
  · exact h
  · subst e
    rw [h] at h'
    exact hne (Option.some.inj h')
theorem BytesAt.set {w : World} {v : Value} {bs : List Int} (hb : BytesAt w v bs) {a : Addr} {y : Int} (h : w.cell? a = some (.int .i64 y)) (u : Value) : BytesAt (w.setCell a u) v bs := by
  obtain ⟨ao, cap, e1, e2, e3, e0, e4⟩ := hb
  refine ⟨ao, cap, e1, e2, e3, e0, fun k x hk => ?_⟩
  obtain ⟨b, off, h1, h2⟩ := e4 k x hk
  refine ⟨b, off, h1, other_cell h2 h ?_ u⟩
  simp only [bytes, List.getElem?_map, Option.map_eq_some_iff] at hk
  obtain ⟨z, _, rfl⟩ := hk
  intro e
  cases e
/-- Stores of numbers into the cursor. -/
theorem Cur.setH {w : World} {c : Nat} (hc : Cur w c) (h' : Int) : Cur (w.setCell ⟨c, 2, none⟩ (.int .i64 h')) c := by
  obtain ⟨_, _, _, h0, _, _, c2, _⟩ := hc.cells
  obtain ⟨v, bs, i, h, h1, h2, h3⟩ := hc
  refine ⟨v, bs, i, h', ?_, h2.set c2 _, h3⟩
  simp [World.setCell, Array.getElem?_modify, h1]
theorem Cur.setI {w : World} {c : Nat} (hc : Cur w c) {i' : Int} (hi : 0 ≤ i') : Cur (w.setCell ⟨c, 1, none⟩ (.int .i64 i')) c := by
  obtain ⟨_, _, _, h0, _, c1, _, _⟩ := hc.cells
  obtain ⟨v, bs, i, h, h1, h2, h3⟩ := hc
  refine ⟨v, bs, i', h, ?_, h2.set c1 _, hi, h3.2⟩
  simp [World.setCell, Array.getElem?_modify, h1]
theorem Cur.drawn {w w' : World} {c : Nat} (hc : Cur w c) (hd : Drawn w w') : Cur w' c := by
  obtain ⟨v, bs, i, h, h1, h2, h3⟩ := hc
  exact ⟨v, bs, i, h, by rw [hd.heap]; exact h1, RowAt.drawn h2 hd, h3⟩
theorem Cur.grown {w w' : World} {c : Nat} (hc : Cur w c) {row : Option Nat} (hg : w.grownBy w' row) (hr : ∀ k, row = some k → c < k) : Cur w' c := by
  obtain ⟨v, bs, i, h, h1, h2, h3⟩ := hc
  refine ⟨v, bs, i, h, ?_, h2.grown h3.2 hg (fun k hk => Nat.le_of_lt (hr k hk)), h3⟩
  rw [hg.block c (Array.getElem?_eq_some_iff.1 h1).1 (fun e => by have := hr c e.symm; omega)]
  exact h1
theorem Cur.below {w w' : World} {c : Nat} (hc : Cur w c) (hb : Below w.heap.size w w') : Cur w' c := by
  obtain ⟨v, bs, i, h, h1, h2, h3⟩ := hc
  exact ⟨v, bs, i, h, by rw [hb.block c (Array.getElem?_eq_some_iff.1 h1).1]; exact h1, RowAt.below h2 hb, h3⟩
theorem Cur.lt {w : World} {c : Nat} (hc : Cur w c) : c < w.heap.size := by
  obtain ⟨v, bs, i, h, h1, h2, h3⟩ := hc
  exact (Array.getElem?_eq_some_iff.1 h1).1
theorem grown_drewNc {w w' : World} {row : Option Nat} (h : w.grownBy w' row) (n : Nat) : w.grownBy (w'.drewN n) row := ⟨h.os, h.tape, h.output, h.size, h.block⟩
set_option maxHeartbeats 800000 in
theorem l01Byte_c {c : Nat} {w : World} {Q : Ending → World → Prop} (hc : Cur w c)
    (hQ : ∀ (x : Int) w', 0 ≤ x → x ≤ 255 → Cur w' c → w.grownBy w' (some c) → w'.heap.size = w.heap.size → Q (.returned (.int .i64 x)) w') :
    Calls Try.prog 42 #[.pointer (some ⟨c, 0, none⟩)] w Q := by
  have H := Lib.hid hQ; clear hQ
  have hc' := Lib.hid hc
  obtain ⟨v, bs, i, h, c0, c1, c2, fr, hb, hi, hlt⟩ := hc.cells
  have hb' := hb
  obtain ⟨ao, ca, rfl, la, lca, cca⟩ := hb'.form
  rw [show (bytes bs).length = bs.length from by simp [bytes]] at *
  have fr1 := fr 1
  have fr2 := fr 2
  clear fr hb' hc
  by_cases hil : i < bs.length
  · obtain ⟨b, off, x, rfl, hx, hcx⟩ := RowAt.cell hb (k := i.toNat) (by simp [bytes]; omega)
    have hx' := hx.out
    simp only [bytes, List.getElem?_map, Option.map_eq_some_iff] at hx'
    obtain ⟨y, _, rfl⟩ := hx'
    clear hx hb
    have hcu : ∀ u, (w.setCell ⟨c, 2, none⟩ u).cell? ⟨b, off + i.toNat, none⟩ = some (.int .u8 y) := fun u => other_cell hcx c2 (by intro e; cases e) u
    go_enter Try.func42, Try.ntmps42
    go_wp2
    go_quiet (fail)
    go_wp2
    go_quiet (fail)
    go_wp2
    go_quiet (fail)
    go_wp2
    refine H.out _ _ (and255 _).1 (and255 _).2 ?_ ?_ ?_
    · exact (((hc'.out.setH _).drawn ⟨_, rfl⟩).setI (by omega)).drawn ⟨0, rfl⟩
    · exact grown_trans (grown_drewNc (grown_set _ _ _ _) _) (grown_set _ _ _ _)
    · simp [World.setCell]
  · clear hb
    go_enter Try.func42, Try.ntmps42
    go_wp2
    go_quiet (fail)
    go_wp2
    go_quiet (fail)
    go_wp2
    refine H.out _ _ (and255 _).1 (and255 _).2 ?_ ?_ ?_
    · exact ((hc'.out.setH _).drawn (Drawn.one _ _)).drawn (Drawn.one _ _)
    · exact grown_drewNc (grown_drewNc (grown_set _ _ _ _) _) _
    · simp [World.setCell]
set_option maxHeartbeats 400000 in
theorem l16New_c {v : Value} {bs : List Int} {n : Int} {w : World} {Q : Ending → World → Prop} (hb : BytesAt w v bs) (hn0 : 0 ≤ n) (hn : n ≤ 1000)
    (hQ : ∀ w', Cur w' w.heap.size → Below w.heap.size w w' → w.heap.size < w'.heap.size → Q (.returned (.pointer (some ⟨w.heap.size, 0, none⟩))) w') :
    Calls Try.prog 41 #[v, .int .i64 n] w Q := by
  have H := Lib.hid hQ; clear hQ
  have hb' := hb
  obtain ⟨ao, ca, rfl, la, lca, cca⟩ := hb'.form
  go_enter Try.func41, Try.ntmps41
  go_wp2_with fail
  refine l01New_c hb ?_
  intro w1 hc1 hb1 hs1
  go_wp2_with fail
  go_loopg [6] n.toNat (fun g i wr => ∃ j : Int, i = .int .i64 j ∧ Cur wr w.heap.size ∧ Below w.heap.size w wr ∧ w.heap.size < wr.heap.size ∧ 0 ≤ j ∧ j + g ≤ n ∧ n ≤ j + g)
  case atStart => exact ⟨0, rfl, hc1, hb1, hs1, by omega, by omega, by omega⟩
  case round =>
    obtain ⟨j, rfl, hc, hbel, hs, hj0, hk1, hk2⟩ := hrel
    by_cases hj : j < n
    · go_wp2_with (go_at_call 42; refine l01Byte_c hc ?_; intro x w2 hx0 hx1 hc2 hg2 hz2)
      go_roundg (gk - 1)
      case measure => omega
      case rel => exact ⟨j + 1, rfl, hc2, hbel.grown hg2 (by omega) (fun k hk => by cases hk; exact Nat.le_refl _), by omega, by omega, by omega, by omega⟩
    · go_wp2
      exact H.out _ hc hbel hs
set_option maxHeartbeats 400000 in
theorem MakeNum_c {v : Value} {bs : List Int} {n : Int} {w : World} {Q : Ending → World → Prop} (hb : BytesAt w v bs) (hn0 : 0 ≤ n) (hn : n ≤ 1000)
    (hQ : ∀ (x : Int) w', 0 ≤ x → x ≤ 65535 → Below w.heap.size w w' → Q (.returned (.int .i64 x)) w') :
    Calls Try.prog 17 #[v, .int .i64 n] w Q := by
  have H := Lib.hid hQ; clear hQ
  go_enter Try.func17, Try.ntmps17
  go_wp2_with fail
  refine l16New_c hb hn0 hn ?_
  intro w1 hc1 hb1 hs1
  go_wp2_with fail
  refine l01Byte_c hc1 ?_
  intro x w2 hx0 hx1 hc2 hg2 hz2
  go_wp2_with fail
  refine l01Byte_c hc2 ?_
  intro y w3 hy0 hy1 hc3 hg3 hz3
  go_wp2
  exact H.out _ _ (by omega) (by omega) ((hb1.grown hg2 (by omega) (fun k hk => by cases hk; exact Nat.le_refl _)).grown hg3 (by omega) (fun k hk => by cases hk; exact Nat.le_refl _))
end Go.Proofs.Ytdjdagcgodpgdaa
