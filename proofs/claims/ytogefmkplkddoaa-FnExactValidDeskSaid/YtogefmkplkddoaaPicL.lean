/- The laws' own functions of pictures. -/
import Derived.Test.YtogefmkplkddoaaMark
namespace Go.Proofs.Ytogefmkplkddoaa
open Go.RowKit

theorem Chg.blk {S : Nat → Prop} {w w' : World} {g : Nat} {t : TypeId} {cs : Array Value} (h : Chg S w w') (hB : Blk w g t cs) (hs : ¬ S g) : Blk w' g t cs := (h.block g hB.lt hs).trans hB
theorem Chg.rd {w w' : World} {base : Nat} {e : TypeId} {A A' : Option Addr} {n c : Nat} {xs : List Value} (h : Chg (fun b => ∃ a, A' = some a ∧ b = a.block) w w') (ho : w.ownsRow base e 1 (.slice A n c) n xs) (hne : ∀ a a', A = some a → A' = some a' → a.block ≠ a'.block) : w'.ownsRow base e 1 (.slice A n c) n xs :=
  h.own ho (fun g hg => by
    cases A with
    | none => simp [Value.ownBlock] at hg
    | some a =>
      simp [Value.ownBlock] at hg
      rintro ⟨a', e, hb⟩
      exact hne a a' rfl e (hg.trans hb))

theorem szPic_any (A : Option Addr) (c : Nat) (rows : List ByteArray) (l0 : Nat) (hl : l0 ≤ 1048576) (w : World) (h : RdA w A (strs rows)) (hn : rows.length ≤ maxLen) (hsz : ∀ r ∈ rows, r.size ≤ maxLen) :
    Calls Try.prog 17 #[.agg #[.slice A rows.length c], .int .i64 l0] w fun e w' => (∃ r : Int, e = .returned (.int .i64 r) ∧ (r < 0 ∨ rows.length ≤ l0)) ∧ Below w.heap.size w w' := by
  have SZ := Lib.hid (fun V (hb : Below w.heap.size w V) => szStrs_any A c rows l0 hl V (h.ext hb) hn hsz)
  clear h hn hsz
  generalize rows.length = n at *
  go_enter Try.func17, Try.ntmps17
  go_wp2_with fail
  refine (SZ.out _ (Ext.more (Ext.refl _) _)).mono ?_
  rintro e w' ⟨⟨r, rfl, hr⟩, rfl⟩
  by_cases h0 : r < 0
  · go_wp2_with fail
    go_ret
    exact ⟨⟨-1, rfl, .inl (by decide)⟩, Ext.more (Ext.refl _) _⟩
  · have HR := Lib.hid hr
    clear hr
    go_wp2_with fail
    go_ret
    exact ⟨⟨r, rfl, HR.out⟩, Ext.more (Ext.refl _) _⟩

set_option maxHeartbeats 400000 in
theorem toPic_any (A : Option Addr) (c : Nat) (rows : List ByteArray) (w : World) (h : RdA w A (strs rows)) (hn : rows.length ≤ 1048576) :
    Calls Try.prog 19 #[.agg #[.slice A rows.length c]] w fun e w' => ∃ A' c', e = .returned (.agg #[.slice A' rows.length c']) ∧
      w'.ownsRow w.heap.size 9 1 (.slice A' rows.length c') rows.length (strs rows) ∧ Below w.heap.size w w' := by
  have TS := Lib.hid (fun V (hb : Below w.heap.size w V) => toStrs_any A c rows V (h.ext hb) hn)
  clear h
  generalize rows.length = n at *
  generalize strs rows = xs at *
  go_enter Try.func19, Try.ntmps19
  go_wp2_with fail
  refine (TS.out _ (Ext.more (Ext.more (Ext.more (Ext.refl _) _) _) _)).mono ?_
  rintro e w2 ⟨A', c', rfl, hown, hb⟩
  have hB1 : Blk (((w.alloc (.cells #[.slice A n c] 38)).alloc (.cells #[.slice none 0 0] 41)).alloc (.cells #[.slice none 0 0] 41)) (w.heap.size + 1) 41 #[.slice none 0 0] := by
    have := (Blk.made (w.alloc (.cells #[.slice A n c] 38)) 41 #[.slice none 0 0]).more (.cells #[.slice none 0 0] 41)
    simpa using this
  have hB2 : Blk (((w.alloc (.cells #[.slice A n c] 38)).alloc (.cells #[.slice none 0 0] 41)).alloc (.cells #[.slice none 0 0] 41)) (w.heap.size + 1 + 1) 41 #[.slice none 0 0] := by
    have := Blk.made ((w.alloc (.cells #[.slice A n c] 38)).alloc (.cells #[.slice none 0 0] 41)) 41 #[.slice none 0 0]
    simpa using this
  have hC1 := hB1.under hb hB1.lt
  have hC2 := hB2.under hb hB2.lt
  have hD2 := hC2.store 0 (.slice A' n c')
  have hD1 := hC1.apart (p := ⟨w.heap.size + 1 + 1, 0, none⟩) (by show w.heap.size + 1 ≠ w.heap.size + 1 + 1; omega) (.slice A' n c')
  have cs := (hD1.store 0 (.slice A' n c')).cell 0
  have c2 := hC2.cell 0
  have f2 := hC2.free 0
  have d1 := hD1.cell 0
  have g1 := hD1.free 0
  have d2 := hD2.cell 0
  simp at c2 d1 d2 cs
  simp only [World.size_alloc] at hown hb
  clear hB1 hB2 hC1 hC2 hD1 hD2
  go_wp2_with fail
  refine bodyPost_ret (v := .agg #[.slice A' n c']) (by simp [results, Try.results19, go_sem, cs]) rfl ⟨A', c', rfl, ?_, ?_⟩
  · exact own_base (ownsRow_setCell_below (ownsRow_setCell_below hown (a := ⟨w.heap.size + 1 + 1, 0, none⟩) (by show w.heap.size + 1 + 1 < w.heap.size + 1 + 1 + 1; omega) _) (a := ⟨w.heap.size + 1, 0, none⟩) (by show w.heap.size + 1 < w.heap.size + 1 + 1 + 1; omega) _) (by omega)
  · exact (((Ext.more (Ext.more (Ext.more (Ext.refl w) (.cells #[.slice A n c] 38)) (.cells #[.slice none 0 0] 41)) (.cells #[.slice none 0 0] 41)).trans (hb.mono (by omega))).setCell (p := ⟨w.heap.size + 1 + 1, 0, none⟩) (by show w.heap.size ≤ w.heap.size + 1 + 1; omega) _).setCell (p := ⟨w.heap.size + 1, 0, none⟩) (by show w.heap.size ≤ w.heap.size + 1; omega) _

theorem eqPic_any (A B : Option Addr) (c d : Nat) (rows : List ByteArray) (w : World) (hA : Rd w A (strs rows)) (hB : Rd w B (strs rows)) (hn : rows.length ≤ 1000000000) :
    Calls Try.prog 21 #[.agg #[.slice A rows.length c], .agg #[.slice B rows.length d]] w fun e w' => e = .returned (.bool true) ∧ Below w.heap.size w w' := by
  have EH := Lib.hid (fun V (hb : Below w.heap.size w V) => eqStrs_any A B c d rows V (hA.ext hb) (hB.ext hb) hn)
  clear hA hB
  generalize rows.length = n at *
  go_enter Try.func21, Try.ntmps21
  go_wp2_with fail
  refine (EH.out _ (Ext.more (Ext.more (Ext.refl _) _) _)).mono ?_
  rintro e w' ⟨rfl, k, rfl⟩
  go_wp2_with fail
  go_ret
  exact ⟨rfl, Ext.drawN (Ext.more (Ext.more (Ext.refl _) _) _) k⟩

end Go.Proofs.Ytogefmkplkddoaa
