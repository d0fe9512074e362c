/- The laws' own functions of grey pictures. -/
import Derived.Test.YtajepoopicoodaaMatC
namespace Go.Proofs.Ytajepoopicoodaa
open Go.RowKit

theorem szGrey_any (A : Option Addr) (c : Nat) (rows : List (List Int)) (l0 : Nat) (hl : l0 ≤ 1048576) (w : World) (h : MatRdA w A rows) (hn : rows.length ≤ maxLen) (hsz : ∀ r ∈ rows, r.length ≤ maxLen) :
    Calls Try.prog 15 #[.agg #[.slice A rows.length c], .int .i64 l0] w fun e w' => (∃ r : Int, e = .returned (.int .i64 r) ∧ (r < 0 ∨ rows.length + tot rows rows.length ≤ l0 ∧ r = ((l0 - (rows.length + tot rows rows.length) : Nat) : Int))) ∧ Below w.heap.size w w' := by
  have SZ := Lib.hid (fun V (hb : Below w.heap.size w V) => szMat_any A c rows l0 hl V (h.ext hb) hn hsz)
  clear h hn hsz
  generalize rows.length = n at *
  go_enter Try.func15, Try.ntmps15
  go_wp2_with fail
  refine (SZ.out _ (Ext.more (Ext.refl _) _)).mono ?_
  rintro e w' ⟨⟨r, rfl, hr⟩, rfl⟩
  by_cases h0 : r < 0
  · go_wp2_with fail
    go_ret
    exact ⟨⟨-1, rfl, .inl (by decide)⟩, Ext.more (Ext.refl _) _⟩
  · have HR := Lib.hid hr
    clear hr
    go_wp2_with fail
    go_ret
    exact ⟨⟨r, rfl, HR.out⟩, Ext.more (Ext.refl _) _⟩

theorem eqGrey_any (A B : Option Addr) (c d : Nat) (rows : List (List Int)) (w : World) (hA : MatRd w A rows) (hB : MatRd w B rows) (hn : rows.length ≤ 1000000000) (hr : ∀ i (h : i < rows.length), rows[i].length ≤ 1000000000) :
    Calls Try.prog 21 #[.agg #[.slice A rows.length c], .agg #[.slice B rows.length d]] w fun e w' => e = .returned (.bool true) ∧ Below w.heap.size w w' := by
  have EH := Lib.hid (fun V (hb : Below w.heap.size w V) => eqMat_any A B c d rows V (hA.ext hb) (hB.ext hb) hn hr)
  clear hA hB hr
  generalize rows.length = n at *
  go_enter Try.func21, Try.ntmps21
  go_wp2_with fail
  refine (EH.out _ (Ext.more (Ext.more (Ext.refl _) _) _)).mono ?_
  rintro e w' ⟨rfl, k, rfl⟩
  go_wp2_with fail
  go_ret
  exact ⟨rfl, Ext.drawN (Ext.more (Ext.more (Ext.refl _) _) _) k⟩

theorem markGrey_any (lo hi : Nat) (A : Option Addr) (c : Nat) (vs : List Value) (rows : List (List Int)) (k0 : Nat) (w : World) (hA : MatAt w lo hi A c vs rows) (hn : rows.length ≤ 1000000000) (ht : tot rows rows.length ≤ 1000000000) (hk0 : k0 ≤ 1000000000) :
    Calls Try.prog 30 #[.agg #[.slice A rows.length c], .int .i64 k0] w fun e w' => e = .returned (.int .i64 ((k0 + tot rows rows.length : Nat) : Int)) ∧
      MatAt w' lo hi A c vs (mkRows k0 rows rows.length) ∧ Chg (fun b => lo ≤ b ∧ b < hi) w w' := by
  have MH := Lib.hid (markMat_any lo hi A c vs rows k0 (w.alloc (.cells #[.slice A rows.length c] 31)) (hA.ext (Ext.more (Ext.refl _) _)) hn ht hk0)
  have C0 : Chg (fun b => lo ≤ b ∧ b < hi) w (w.alloc (.cells #[.slice A rows.length c] 31)) := (Chg.refl _ w).ext (Ext.more (Ext.refl _) _)
  clear hA ht
  generalize tot rows rows.length = t at *
  generalize mkRows k0 rows rows.length = rr at *
  generalize rows.length = n at *
  go_enter Try.func30, Try.ntmps30
  go_wp2_with fail
  refine MH.out.mono ?_
  rintro e w' ⟨rfl, hown, hc⟩
  have HH := Lib.hid (And.intro hown (C0.trans hc))
  clear hown hc
  go_wp2_with fail
  go_ret
  exact ⟨rfl, HH.out⟩

theorem heldGrey_any (A : Option Addr) (c : Nat) (rows : List (List Int)) (k0 : Nat) (w : World) (hA : MatRd w A (mkRows k0 rows rows.length)) (hn : rows.length ≤ 1000000000) (ht : tot rows rows.length ≤ 1000000000) (hk0 : k0 ≤ 1000000000) :
    Calls Try.prog 31 #[.agg #[.slice A rows.length c], .int .i64 k0] w fun e w' => e = .returned (.int .i64 ((k0 + tot rows rows.length : Nat) : Int)) ∧ Below w.heap.size w w' := by
  have HH := Lib.hid (heldMat_any A c rows k0 (w.alloc (.cells #[.slice A rows.length c] 31)) (hA.ext (Ext.more (Ext.refl _) _)) hn ht hk0)
  clear hA
  have t0 : ¬ ((k0 + tot rows rows.length : Nat) : Int) < 0 := by omega
  generalize tot rows rows.length = t at *
  generalize rows.length = n at *
  go_enter Try.func31, Try.ntmps31
  go_wp2_with fail
  refine HH.out.mono ?_
  rintro e w' ⟨rfl, rfl⟩
  go_wp2_with fail
  go_ret
  exact ⟨rfl, Ext.more (Ext.refl _) _⟩

set_option maxHeartbeats 400000 in
theorem toGrey_any (A : Option Addr) (c : Nat) (rows : List (List Int)) (w : World) (h : MatRdA w A rows) (hn : rows.length ≤ 1048576) (hsz : ∀ r ∈ rows, r.length ≤ 1048576) :
    Calls Try.prog 17 #[.agg #[.slice A rows.length c]] w fun e w' => ∃ A' c' vs, e = .returned (.agg #[.slice A' rows.length c']) ∧ MatAt w' w.heap.size w'.heap.size A' c' vs rows ∧ Below w.heap.size w w' := by
  have TS := Lib.hid (fun V (hb : Below w.heap.size w V) => toMat_any A c rows V (h.ext hb) hn hsz)
  clear h hsz
  obtain ⟨n, hnL⟩ : ∃ n, rows.length = n := ⟨_, rfl⟩
  rw [hnL] at TS ⊢
  go_enter Try.func17, Try.ntmps17
  go_wp2_with fail
  refine (TS.out _ (Ext.more (Ext.more (Ext.more (Ext.refl _) _) _) _)).mono ?_
  rintro e w2 ⟨A', c', vs, rfl, hm, hb⟩
  have hB1 : Blk (((w.alloc (.cells #[.slice A n c] 24)).alloc (.cells #[.slice none 0 0] 31)).alloc (.cells #[.slice none 0 0] 31)) (w.heap.size + 1) 31 #[.slice none 0 0] := by
    have := (Blk.made (w.alloc (.cells #[.slice A n c] 24)) 31 #[.slice none 0 0]).more (.cells #[.slice none 0 0] 31)
    simpa using this
  have hB2 : Blk (((w.alloc (.cells #[.slice A n c] 24)).alloc (.cells #[.slice none 0 0] 31)).alloc (.cells #[.slice none 0 0] 31)) (w.heap.size + 1 + 1) 31 #[.slice none 0 0] := by
    have := Blk.made ((w.alloc (.cells #[.slice A n c] 24)).alloc (.cells #[.slice none 0 0] 31)) 31 #[.slice none 0 0]
    simpa using this
  have hC1 := hB1.under hb hB1.lt
  have hC2 := hB2.under hb hB2.lt
  have hD2 := hC2.store 0 (.slice A' n c')
  have hD1 := hC1.apart (p := ⟨w.heap.size + 1 + 1, 0, none⟩) (by show w.heap.size + 1 ≠ w.heap.size + 1 + 1; omega) (.slice A' n c')
  have cs := (hD1.store 0 (.slice A' n c')).cell 0
  have c2 := hC2.cell 0
  have f2 := hC2.free 0
  have d1 := hD1.cell 0
  have g1 := hD1.free 0
  have d2 := hD2.cell 0
  simp at c2 d1 d2 cs
  simp only [World.size_alloc] at hm hb
  have HM := Lib.hid hm
  clear hB1 hB2 hC1 hC2 hD1 hD2 hm
  go_wp2_with fail
  refine bodyPost_ret (v := .agg #[.slice A' n c']) (by simp [results, Try.results17, go_sem, cs]) rfl ⟨A', c', vs, rfl, ?_, ?_⟩
  · have hk := HM.out.keep (((Chg.refl (fun b => b < w.heap.size + 1 + 1 + 1) w2).store (p := ⟨w.heap.size + 1 + 1, 0, none⟩) (by show w.heap.size + 1 + 1 < w.heap.size + 1 + 1 + 1; omega) (.slice A' n c')).store (p := ⟨w.heap.size + 1, 0, none⟩) (by show w.heap.size + 1 < w.heap.size + 1 + 1 + 1; omega) (.slice A' n c')) (fun b h1 h2 h3 => by omega)
    have hz : ((w2.setCell ⟨w.heap.size + 1 + 1, 0, none⟩ (.slice A' n c')).setCell ⟨w.heap.size + 1, 0, none⟩ (.slice A' n c')).heap.size = w2.heap.size := by simp [World.setCell]
    rw [hz]
    exact ⟨own_base hk.outer (by omega), hk.top, fun i hi => (by obtain ⟨Ai, ci, h1, h2, h3⟩ := hk.row i hi; exact ⟨Ai, ci, h1, own_base h2 (by omega), h3⟩), hk.apart⟩
  · exact (((Ext.more (Ext.more (Ext.more (Ext.refl w) (.cells #[.slice A n c] 24)) (.cells #[.slice none 0 0] 31)) (.cells #[.slice none 0 0] 31)).trans (hb.mono (by omega))).setCell (p := ⟨w.heap.size + 1 + 1, 0, none⟩) (by show w.heap.size ≤ w.heap.size + 1 + 1; omega) _).setCell (p := ⟨w.heap.size + 1, 0, none⟩) (by show w.heap.size ≤ w.heap.size + 1; omega) _
end Go.Proofs.Ytajepoopicoodaa
