/- The laws' own functions of pictures. -/
import Derived.Test.YtogefmkplkddoaaDoorMark
namespace Go.Proofs.YtogefmkplkddoaaDoor
open Go.RowKit

theorem Chg.blk {S : Nat → Prop} {w w' : World} {g : Nat} {t : TypeId} {cs : Array Value} (h : Chg S w w') (hB : Blk w g t cs) (hs : ¬ S g) : Blk w' g t cs := (h.block g hB.lt hs).trans hB
theorem Chg.rd {w w' : World} {base : Nat} {e : TypeId} {A A' : Option Addr} {n c : Nat} {xs : List Value} (h : Chg (fun b => ∃ a, A' = some a ∧ b = a.block) w w') (ho : w.ownsRow base e 1 (.slice A n c) n xs) (hne : ∀ a a', A = some a → A' = some a' → a.block ≠ a'.block) : w'.ownsRow base e 1 (.slice A n c) n xs :=
  h.own ho (fun g hg => by
    cases A with
    | none => simp [Value.ownBlock] at hg
    | some a =>
      simp [Value.ownBlock] at hg
      rintro ⟨a', e, hb⟩
      exact hne a a' rfl e (hg.trans hb))

theorem eqPic_any (A B : Option Addr) (c d : Nat) (rows : List ByteArray) (w : World) (hA : Rd w A (strs rows)) (hB : Rd w B (strs rows)) (hn : rows.length ≤ 1000000000) :
    Calls Tryd.prog 23 #[.agg #[.slice A rows.length c], .agg #[.slice B rows.length d]] w fun e w' => e = .returned (.bool true) ∧ Below w.heap.size w w' := by
  have EH := Lib.hid (fun V (hb : Below w.heap.size w V) => eqStrs_any A B c d rows V (hA.ext hb) (hB.ext hb) hn)
  clear hA hB
  generalize rows.length = n at *
  go_enter Tryd.func23, Tryd.ntmps23
  go_wp2_with fail
  refine (EH.out _ (Ext.more (Ext.more (Ext.refl _) _) _)).mono ?_
  rintro e w' ⟨rfl, k, rfl⟩
  go_wp2_with fail
  go_ret
  exact ⟨rfl, Ext.drawN (Ext.more (Ext.more (Ext.refl _) _) _) k⟩

theorem markPic_any (base : Nat) (A : Option Addr) (c : Nat) (rows : List ByteArray) (k0 : Nat) (h0 : 0 < k0) (w : World) (hA : w.ownsRow base 9 1 (.slice A rows.length c) rows.length (strs rows)) (hn : rows.length ≤ 1000000000) (hk0 : k0 ≤ 1000000000) :
    Calls Tryd.prog 24 #[.agg #[.slice A rows.length c], .int .i64 k0] w fun e w' => e = .returned (.int .i64 ((k0 + rows.length : Nat) : Int)) ∧
      w'.ownsRow base 9 1 (.slice A rows.length c) rows.length (strs (markSs k0 rows.length)) ∧ Chg (fun b => ∃ a, A = some a ∧ b = a.block) w w' := by
  have MH := Lib.hid (markStrs_any base A c rows k0 h0 (w.alloc (.cells #[.slice A rows.length c] 36)) (hA.alloc _) hn hk0)
  have C0 : Chg (fun b => ∃ a, A = some a ∧ b = a.block) w (w.alloc (.cells #[.slice A rows.length c] 36)) := (Chg.refl _ w).ext (Ext.more (Ext.refl _) _)
  clear hA
  generalize rows.length = n at *
  go_enter Tryd.func24, Tryd.ntmps24
  go_wp2_with fail
  refine MH.out.mono ?_
  rintro e w' ⟨rfl, hown, hc⟩
  go_wp2_with fail
  go_ret
  exact ⟨rfl, hown, C0.trans hc⟩

theorem heldPic_any (A : Option Addr) (c n k0 : Nat) (h0 : 0 < k0) (w : World) (hA : Rd w A (strs (markSs k0 n))) (hn : n ≤ 1000000000) (hk0 : k0 ≤ 1000000000) :
    Calls Tryd.prog 25 #[.agg #[.slice A n c], .int .i64 k0] w fun e w' => e = .returned (.int .i64 ((k0 + n : Nat) : Int)) ∧ Below w.heap.size w w' := by
  have HH := Lib.hid (heldStrs_any A c n k0 h0 (w.alloc (.cells #[.slice A n c] 36)) (hA.ext (Ext.more (Ext.refl _) _)) hn hk0)
  clear hA
  have t0 : ¬ ((k0 + n : Nat) : Int) < 0 := by omega
  go_enter Tryd.func25, Tryd.ntmps25
  go_wp2_with fail
  refine HH.out.mono ?_
  rintro e w' ⟨rfl, hb⟩
  go_wp2_with fail
  go_ret
  exact ⟨rfl, Ext.then_ (Ext.more (Ext.refl _) _) hb⟩
end Go.Proofs.YtogefmkplkddoaaDoor
