/- The laws' own functions of pictures. -/
import Derived.Test.YtgbciimfpahekaaDoorMark
namespace Go.Proofs.YtgbciimfpahekaaDoor
open Go.RowKit

theorem Chg.blk {S : Nat → Prop} {w w' : World} {g : Nat} {t : TypeId} {cs : Array Value} (h : Chg S w w') (hB : Blk w g t cs) (hs : ¬ S g) : Blk w' g t cs := (h.block g hB.lt hs).trans hB
theorem Chg.rd {w w' : World} {base : Nat} {e : TypeId} {A A' : Option Addr} {n c : Nat} {xs : List Value} (h : Chg (fun b => ∃ a, A' = some a ∧ b = a.block) w w') (ho : w.ownsRow base e 1 (.slice A n c) n xs) (hne : ∀ a a', A = some a → A' = some a' → a.block ≠ a'.block) : w'.ownsRow base e 1 (.slice A n c) n xs :=
  h.own ho (fun g hg => by
    cases A with
    | none => simp [Value.ownBlock] at hg
    | some a =>
      simp [Value.ownBlock] at hg
      rintro ⟨a', e, hb⟩
      exact hne a a' rfl e (hg.trans hb))

end Go.Proofs.YtgbciimfpahekaaDoor
