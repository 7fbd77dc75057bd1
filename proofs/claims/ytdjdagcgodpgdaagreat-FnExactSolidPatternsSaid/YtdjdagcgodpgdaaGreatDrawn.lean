/-
  A call that only reads: the world behind it is the world before it but for draws.
-/
import Derived.WalkKit
import Derived.Lib.Hide
import Derived.Deep.QuietTactic
namespace Go.Proofs.YtdjdagcgodpgdaaGreat
open Go.RowKit
/-- w' is w but for some draws. -/
def Drawn (w w' : World) : Prop := ∃ m, w' = w.drewN m
theorem Drawn.refl (w : World) : Drawn w w := ⟨0, rfl⟩
theorem Drawn.one (w : World) (m : Nat) : Drawn w (w.drewN m) := ⟨m, rfl⟩
theorem Drawn.trans {a b c : World} (h : Drawn a b) (k : Drawn b c) : Drawn a c := by
  obtain ⟨m, rfl⟩ := h
  obtain ⟨n, rfl⟩ := k
  exact ⟨m + n, World.drewN_drewN ..⟩
theorem Drawn.next {a b : World} (h : Drawn a b) (m : Nat) : Drawn a (b.drewN m) := h.trans (Drawn.one b m)
theorem Drawn.cell {w w' : World} (h : Drawn w w') (a : Addr) : w'.cell? a = w.cell? a := by obtain ⟨m, rfl⟩ := h; rfl
theorem Drawn.cells {w w' : World} (h : Drawn w w') : ∀ a x, w.cell? a = some x → w'.cell? a = some x := fun a x hx => by rw [h.cell]; exact hx
theorem Drawn.frozen {w w' : World} (h : Drawn w w') (a : Addr) : w'.frozen? a = w.frozen? a := by obtain ⟨m, rfl⟩ := h; rfl
theorem Drawn.heap {w w' : World} (h : Drawn w w') : w'.heap = w.heap := by obtain ⟨m, rfl⟩ := h; rfl
theorem Drawn.below {w w' : World} (h : Drawn w w') (B : Nat) : Below B w w' := by
  obtain ⟨m, rfl⟩ := h
  exact ⟨rfl, rfl, rfl, Nat.le_refl _, fun _ _ => rfl⟩
/-- The contract of a call that only reads, in the form that 'go_quiet' asks. -/
theorem quiet_c {P : Program} {f : FuncId} {args : Array Value} {w : World} {n : Nat} {v : Value} (h : Calls P f args (w.drewN n) fun e w' => e = .returned v ∧ Drawn (w.drewN n) w') :
    Calls P f args (w.drewN n) fun e w'' => e = .returned v ∧ ∃ m, w'' = w.drewN m := Calls.quiet_of h
theorem intq' {Q : Ending → World → Prop} {n n' : Int} {k : IntKind} {w : World} (h : Q (.returned (.int k n)) w) (e : n = n') : Q (.returned (.int k n')) w := by
  rw [← e]; exact h
theorem boolq' {Q : Ending → World → Prop} {b b' : Bool} {w : World} (h : Q (.returned (.bool b)) w) (e : b = b') : Q (.returned (.bool b')) w := by
  rw [← e]; exact h
end Go.Proofs.YtdjdagcgodpgdaaGreat
