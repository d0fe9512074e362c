/- Numbers that an input chooses; a square that an input draws. -/
import Derived.Test.YtdbelajgndclfaaDrawS
import Derived.Test.YtdbelajgndclfaaR8
namespace Go.Proofs.Ytdbelajgndclfaa
open Go.RowKit

set_option maxHeartbeats 1000000 in
theorem r8At_any (A : Option Addr) (n c : Nat) (l : List Int) (k m : Nat) (w : World) (hl : BytesAt w A n l) (hm : 1 < m) (hm2 : m ≤ 200) (hk : k ≤ 10) (_hn : n ≤ maxLen) :
    Calls Try.prog 51 #[.slice A n c, .int .i64 k, .int .i64 m] w fun e w' => (∃ v : Nat, v < m ∧ e = .returned (.int .i64 v)) ∧ w = w' := by
  have t0 : ¬ (m : Int) ≤ 1 := by omega
  have t1 : (m : Int) ≠ 0 := by omega
  by_cases h : k < n
  · obtain ⟨a, rfl, ha, hc⟩ := hl.2.2 (by omega)
    have hkl : k < l.length := by rw [hl.1]; exact h
    have c1 := hc k hkl
    obtain ⟨b0, b1⟩ := hl.2.1 l[k] (List.getElem_mem hkl)
    generalize l[k] = v at *
    have k1 : ¬ (n : Int) ≤ (k : Int) := by omega
    have i0 : (0 : Int) ≤ (k : Int) := by omega
    have i1 : (k : Int) < (n : Int) := by omega
    clear hc hl
    go_enter Try.func51, Try.ntmps51
    go_wp2_with fail
    go_ret
    refine ⟨⟨(v % (m : Int)).toNat, ?_, ?_⟩, rfl⟩
    · have := Int.emod_lt_of_pos v (show (0 : Int) < m by omega)
      have := Int.emod_nonneg v (show (m : Int) ≠ 0 by omega)
      omega
    · have := Int.emod_nonneg v (show (m : Int) ≠ 0 by omega)
      have e1 : (((v % (m : Int)).toNat : Nat) : Int) = v % (m : Int) := by omega
      rw [e1]
      rfl
  · have k1 : (n : Int) ≤ (k : Int) := by omega
    clear hl
    go_enter Try.func51, Try.ntmps51
    go_wp2_with fail
    go_ret
    exact ⟨⟨0, by omega, rfl⟩, rfl⟩

set_option maxRecDepth 100000 in
set_option maxHeartbeats 1000000 in
theorem r8Sized_any (A : Option Addr) (n c : Nat) (l : List Int) (S : Nat) (w : World) (hl : BytesAt w A n l) (hn : n ≤ maxLen) (hS0 : 0 < S) (hS : S ≤ 16) :
    Calls Try.prog 52 #[.slice A n c, .int .i64 S] w fun e w' => ∃ A c L, e = .returned (.agg #[.slice A S c]) ∧ L.length = S * S ∧ w'.ownsRow w.heap.size 9 1 (.slice A S c) S (strs (rowsTo L S S)) ∧ Below w.heap.size w w' := by
  have F0 := Lib.hid (from0_any A n c l (w.alloc (.cells #[.slice none 0 0] 26)) (hl.ext (Ext.more (Ext.refl _) _)))
  have R0 := Blk.made w 26 #[.slice none 0 0]
  have B0 : Below w.heap.size w (w.alloc (.cells #[.slice none 0 0] 26)) := Ext.more (Ext.refl _) _
  clear hl
  go_enter Try.func52, Try.ntmps52
  go_wp2_with fail
  refine F0.out.mono ?_
  rintro e w1 ⟨s, rfl, S1, hb1⟩
  replace R0 := R0.under hb1 R0.lt
  replace B0 := Ext.then_ B0 hb1
  have hsw := S1.high
  simp only [World.size_alloc] at hsw
  have DR := Lib.hid (drawSq_any _ s A n c 0 l S w1 S1 hn (by omega) hS0 hS)
  clear hb1 S1
  go_wp2_with fail
  refine DR.out.mono ?_
  rintro e w4 ⟨A4, c4, L, rfl, hL, own4, ch⟩
  have z3 := R0.lt
  replace R0 := ch.blk R0 (fun e => by omega)
  have y3 := B0.size
  replace B0 := B0.trans (ch.below (fun b hb => by omega) (by omega))
  have c0 := R0.cell 0
  have f0 := R0.free 0
  have cs := (R0.store 0 (.slice A4 S c4)).cell 0
  simp at c0 cs
  have HL := Lib.hid hL
  clear hL ch DR
  go_wp2_with fail
  refine bodyPost_ret (v := .agg #[.slice A4 S c4]) (by simp [results, Try.results52, go_sem, cs]) rfl ⟨A4, c4, L, rfl, HL.out, ?_, ?_⟩
  · exact own_base (ownsRow_setCell_below own4 (a := ⟨w.heap.size, 0, none⟩) z3 _) y3
  · exact B0.setCell (p := ⟨w.heap.size, 0, none⟩) (Nat.le_refl _) _
end Go.Proofs.Ytdbelajgndclfaa
