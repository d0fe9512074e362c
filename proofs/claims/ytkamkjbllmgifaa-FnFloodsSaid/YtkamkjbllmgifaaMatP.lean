/- The laws' own functions of grey pictures. A matrix that grows by a row. -/
import Derived.Test.YtkamkjbllmgifaaMatC
namespace Go.Proofs.Ytkamkjbllmgifaa
open Go.RowKit

theorem szGrey_any (A : Option Addr) (c : Nat) (rows : List (List Int)) (l0 : Nat) (hl : l0 ≤ 1048576) (w : World) (h : MatRdA w A rows) (hn : rows.length ≤ maxLen) (hsz : ∀ r ∈ rows, r.length ≤ maxLen) :
    Calls Try.prog 24 #[.agg #[.slice A rows.length c], .int .i64 l0] w fun e w' => (∃ r : Int, e = .returned (.int .i64 r) ∧ (r < 0 ∨ rows.length + tot rows rows.length ≤ l0 ∧ r = ((l0 - (rows.length + tot rows rows.length) : Nat) : Int))) ∧ Below w.heap.size w w' := by
  have SZ := Lib.hid (fun V (hb : Below w.heap.size w V) => szMat_any A c rows l0 hl V (h.ext hb) hn hsz)
  clear h hn hsz
  generalize rows.length = n at *
  go_enter Try.func24, Try.ntmps24
  go_wp2_with fail
  refine (SZ.out _ (Ext.more (Ext.refl _) _)).mono ?_
  rintro e w' ⟨⟨r, rfl, hr⟩, rfl⟩
  by_cases h0 : r < 0
  · go_wp2_with fail
    go_ret
    exact ⟨⟨-1, rfl, .inl (by decide)⟩, Ext.more (Ext.refl _) _⟩
  · have HR := Lib.hid hr
    clear hr
    go_wp2_with fail
    go_ret
    exact ⟨⟨r, rfl, HR.out⟩, Ext.more (Ext.refl _) _⟩

theorem eqGrey_any (A B : Option Addr) (c d : Nat) (rows : List (List Int)) (w : World) (hA : MatRd w A rows) (hB : MatRd w B rows) (hn : rows.length ≤ 1000000000) (hr : ∀ i (h : i < rows.length), rows[i].length ≤ 1000000000) :
    Calls Try.prog 28 #[.agg #[.slice A rows.length c], .agg #[.slice B rows.length d]] w fun e w' => e = .returned (.bool true) ∧ Below w.heap.size w w' := by
  have EH := Lib.hid (fun V (hb : Below w.heap.size w V) => eqMat_any A B c d rows V (hA.ext hb) (hB.ext hb) hn hr)
  clear hA hB hr
  generalize rows.length = n at *
  go_enter Try.func28, Try.ntmps28
  go_wp2_with fail
  refine (EH.out _ (Ext.more (Ext.more (Ext.refl _) _) _)).mono ?_
  rintro e w' ⟨rfl, k, rfl⟩
  go_wp2_with fail
  go_ret
  exact ⟨rfl, Ext.drawN (Ext.more (Ext.more (Ext.refl _) _) _) k⟩

theorem markGrey_any (lo hi : Nat) (A : Option Addr) (c : Nat) (vs : List Value) (rows : List (List Int)) (k0 : Nat) (w : World) (hA : MatAt w lo hi A c vs rows) (hn : rows.length ≤ 1000000000) (ht : tot rows rows.length ≤ 1000000000) (hk0 : k0 ≤ 1000000000) :
    Calls Try.prog 29 #[.agg #[.slice A rows.length c], .int .i64 k0] w fun e w' => e = .returned (.int .i64 ((k0 + tot rows rows.length : Nat) : Int)) ∧
      MatAt w' lo hi A c vs (mkRows k0 rows rows.length) ∧ Chg (fun b => lo ≤ b ∧ b < hi) w w' := by
  have MH := Lib.hid (markMat_any lo hi A c vs rows k0 (w.alloc (.cells #[.slice A rows.length c] 26)) (hA.ext (Ext.more (Ext.refl _) _)) hn ht hk0)
  have C0 : Chg (fun b => lo ≤ b ∧ b < hi) w (w.alloc (.cells #[.slice A rows.length c] 26)) := (Chg.refl _ w).ext (Ext.more (Ext.refl _) _)
  clear hA ht
  generalize tot rows rows.length = t at *
  generalize mkRows k0 rows rows.length = rr at *
  generalize rows.length = n at *
  go_enter Try.func29, Try.ntmps29
  go_wp2_with fail
  refine MH.out.mono ?_
  rintro e w' ⟨rfl, hown, hc⟩
  have HH := Lib.hid (And.intro hown (C0.trans hc))
  clear hown hc
  go_wp2_with fail
  go_ret
  exact ⟨rfl, HH.out⟩

theorem heldGrey_any (A : Option Addr) (c : Nat) (rows : List (List Int)) (k0 : Nat) (w : World) (hA : MatRd w A (mkRows k0 rows rows.length)) (hn : rows.length ≤ 1000000000) (ht : tot rows rows.length ≤ 1000000000) (hk0 : k0 ≤ 1000000000) :
    Calls Try.prog 34 #[.agg #[.slice A rows.length c], .int .i64 k0] w fun e w' => e = .returned (.int .i64 ((k0 + tot rows rows.length : Nat) : Int)) ∧ Below w.heap.size w w' := by
  have HH := Lib.hid (heldMat_any A c rows k0 (w.alloc (.cells #[.slice A rows.length c] 26)) (hA.ext (Ext.more (Ext.refl _) _)) hn ht hk0)
  clear hA
  have t0 : ¬ ((k0 + tot rows rows.length : Nat) : Int) < 0 := by omega
  generalize tot rows rows.length = t at *
  generalize rows.length = n at *
  go_enter Try.func34, Try.ntmps34
  go_wp2_with fail
  refine HH.out.mono ?_
  rintro e w' ⟨rfl, rfl⟩
  go_wp2_with fail
  go_ret
  exact ⟨rfl, Ext.more (Ext.refl _) _⟩

set_option maxHeartbeats 400000 in
theorem toGrey_any (A : Option Addr) (c : Nat) (rows : List (List Int)) (w : World) (h : MatRdA w A rows) (hn : rows.length ≤ 1048576) (hsz : ∀ r ∈ rows, r.length ≤ 1048576) :
    Calls Try.prog 26 #[.agg #[.slice A rows.length c]] w fun e w' => ∃ A' c' vs, e = .returned (.agg #[.slice A' rows.length c']) ∧ MatAt w' w.heap.size w'.heap.size A' c' vs rows ∧ Below w.heap.size w w' := by
  have TS := Lib.hid (fun V (hb : Below w.heap.size w V) => toMat_any A c rows V (h.ext hb) hn hsz)
  clear h hsz
  obtain ⟨n, hnL⟩ : ∃ n, rows.length = n := ⟨_, rfl⟩
  rw [hnL] at TS ⊢
  go_enter Try.func26, Try.ntmps26
  go_wp2_with fail
  refine (TS.out _ (Ext.more (Ext.more (Ext.more (Ext.refl _) _) _) _)).mono ?_
  rintro e w2 ⟨A', c', vs, rfl, hm, hb⟩
  have hB1 : Blk (((w.alloc (.cells #[.slice A n c] 47)).alloc (.cells #[.slice none 0 0] 26)).alloc (.cells #[.slice none 0 0] 26)) (w.heap.size + 1) 26 #[.slice none 0 0] := by
    have := (Blk.made (w.alloc (.cells #[.slice A n c] 47)) 26 #[.slice none 0 0]).more (.cells #[.slice none 0 0] 26)
    simpa using this
  have hB2 : Blk (((w.alloc (.cells #[.slice A n c] 47)).alloc (.cells #[.slice none 0 0] 26)).alloc (.cells #[.slice none 0 0] 26)) (w.heap.size + 1 + 1) 26 #[.slice none 0 0] := by
    have := Blk.made ((w.alloc (.cells #[.slice A n c] 47)).alloc (.cells #[.slice none 0 0] 26)) 26 #[.slice none 0 0]
    simpa using this
  have hC1 := hB1.under hb hB1.lt
  have hC2 := hB2.under hb hB2.lt
  have hD2 := hC2.store 0 (.slice A' n c')
  have hD1 := hC1.apart (p := ⟨w.heap.size + 1 + 1, 0, none⟩) (by show w.heap.size + 1 ≠ w.heap.size + 1 + 1; omega) (.slice A' n c')
  have cs := (hD1.store 0 (.slice A' n c')).cell 0
  have c2 := hC2.cell 0
  have f2 := hC2.free 0
  have d1 := hD1.cell 0
  have g1 := hD1.free 0
  have d2 := hD2.cell 0
  simp at c2 d1 d2 cs
  simp only [World.size_alloc] at hm hb
  have HM := Lib.hid hm
  clear hB1 hB2 hC1 hC2 hD1 hD2 hm
  go_wp2_with fail
  refine bodyPost_ret (v := .agg #[.slice A' n c']) (by simp [results, Try.results26, go_sem, cs]) rfl ⟨A', c', vs, rfl, ?_, ?_⟩
  · have hk := HM.out.keep (((Chg.refl (fun b => b < w.heap.size + 1 + 1 + 1) w2).store (p := ⟨w.heap.size + 1 + 1, 0, none⟩) (by show w.heap.size + 1 + 1 < w.heap.size + 1 + 1 + 1; omega) (.slice A' n c')).store (p := ⟨w.heap.size + 1, 0, none⟩) (by show w.heap.size + 1 < w.heap.size + 1 + 1 + 1; omega) (.slice A' n c')) (fun b h1 h2 h3 => by omega)
    have hz : ((w2.setCell ⟨w.heap.size + 1 + 1, 0, none⟩ (.slice A' n c')).setCell ⟨w.heap.size + 1, 0, none⟩ (.slice A' n c')).heap.size = w2.heap.size := by simp [World.setCell]
    rw [hz]
    exact ⟨own_base hk.outer (by omega), hk.top, fun i hi => (by obtain ⟨Ai, ci, h1, h2, h3⟩ := hk.row i hi; exact ⟨Ai, ci, h1, own_base h2 (by omega), h3⟩), hk.apart⟩
  · exact (((Ext.more (Ext.more (Ext.more (Ext.refl w) (.cells #[.slice A n c] 47)) (.cells #[.slice none 0 0] 26)) (.cells #[.slice none 0 0] 26)).trans (hb.mono (by omega))).setCell (p := ⟨w.heap.size + 1 + 1, 0, none⟩) (by show w.heap.size ≤ w.heap.size + 1 + 1; omega) _).setCell (p := ⟨w.heap.size + 1, 0, none⟩) (by show w.heap.size ≤ w.heap.size + 1; omega) _
end Go.Proofs.Ytkamkjbllmgifaa

namespace Go.Proofs.Ytkamkjbllmgifaa
open Go.RowKit

theorem MatAt.push {w1 w2 w3 : World} {lo hi hi2 : Nat} {A : Option Addr} {c : Nat} {vs : List Value} {rows : List (List Int)} (h : MatAt w1 lo hi A c vs rows) (hb : Below w1.heap.size w1 w2) {o : Obj} {Ar : Option Addr} {cr : Nat} {r : List Int}
    (ho : w2.ownsRow hi2 2 1 (.slice Ar r.length cr) r.length (ints r)) (hlo : lo ≤ hi2) (hh : hi ≤ hi2) (hg : (w2.alloc o).grownBy w3 (Value.slice A rows.length c).ownBlock) {g3 cap3 : Nat}
    (hout : w3.ownsRow lo 34 1 (.slice (some ⟨g3, 0, none⟩) (rows.length + 1) cap3) (rows.length + 1) (vs ++ [.slice Ar r.length cr])) :
    MatAt w3 lo w3.heap.size (some ⟨g3, 0, none⟩) cap3 (vs ++ [.slice Ar r.length cr]) (rows ++ [r]) := by
  have hvl : vs.length = rows.length := by have := h.outer.1; omega
  have hout1 := own_ext hb h.outer
  have keep : ∀ {b : Nat} {v : Value} {n : Nat} {xs : List Value}, w2.ownsRow b 2 1 v n xs → w3.ownsRow b 2 1 v n xs := by
    intro b v n xs hv
    refine World.ownsRow.kept (hv.alloc o) hg ?_
    cases e : v.ownBlock with
    | none => exact .inl rfl
    | some g => exact .inr (fun e2 => own_own_ne hv hout1 (by decide) e e2.symm)
  have old : ∀ i (hir : i < rows.length), ∃ Ai ci, vs[i]? = some (.slice Ai rows[i].length ci) ∧ w3.ownsRow lo 2 1 (.slice Ai rows[i].length ci) rows[i].length (ints rows[i]) ∧ ∀ a, Ai = some a → a.block < hi := by
    intro i hir
    obtain ⟨Ai, ci, h1, h2, h3⟩ := h.row i hir
    exact ⟨Ai, ci, h1, keep (own_ext hb h2), h3⟩
  refine ⟨by rw [List.length_append]; exact hout, fun a ha => by cases ha; exact (hout.lt _ rfl).2, fun i hi' => ?_, fun i j u v g hij hu hv hg' => ?_⟩
  · by_cases e : i < rows.length
    · obtain ⟨Ai, ci, h1, h2, h3⟩ := old i e
      refine ⟨Ai, ci, ?_, ?_, fun a ha => by subst ha; exact (h2.lt _ rfl).2⟩
      · rw [List.getElem?_append_left (by omega), List.getElem_append_left e]; exact h1
      · rw [List.getElem_append_left e]; exact h2
    · have e' : i = rows.length := by simp at hi'; omega
      subst e'
      refine ⟨Ar, cr, ?_, ?_, fun a ha => by subst ha; exact ((keep ho).lt _ rfl).2⟩
      · rw [List.getElem?_append_right (by omega), hvl]; simp
      · simp only [List.getElem_append_right (Nat.le_refl _), Nat.sub_self, List.getElem_cons_zero]
        exact own_base (keep ho) hlo
  · have last : ∀ (k : Nat) (x : Value), (vs ++ [Value.slice Ar r.length cr])[k]? = some x → (k < rows.length ∧ vs[k]? = some x) ∨ (k = rows.length ∧ x = .slice Ar r.length cr) := by
      intro k x hx
      by_cases e : k < rows.length
      · rw [List.getElem?_append_left (by omega)] at hx
        exact .inl ⟨e, hx⟩
      · rw [List.getElem?_append_right (by omega), hvl] at hx
        have : k - rows.length = 0 := by
          rcases Nat.eq_zero_or_pos (k - rows.length) with h0 | h0
          · exact h0
          · rw [List.getElem?_eq_none (by simp; omega)] at hx; cases hx
        rw [this] at hx
        refine .inr ⟨by omega, by simpa using hx.symm⟩
    have low : ∀ (k : Nat) (x : Value) (g : Nat), k < rows.length → vs[k]? = some x → x.ownBlock = some g → g < hi := by
      intro k x g hk hx hgx
      obtain ⟨Ai, ci, h1, _, h3⟩ := old k hk
      rw [hx] at h1
      obtain rfl := Option.some.inj h1
      cases Ai with
      | none => simp [Value.ownBlock] at hgx
      | some a =>
        simp only [Value.ownBlock, Option.some.injEq] at hgx
        rw [← hgx]; exact h3 a rfl
    rcases last i u hu with ⟨hi1, hu1⟩ | ⟨hi1, rfl⟩
    · rcases last j v hv with ⟨hj1, hv1⟩ | ⟨hj1, rfl⟩
      · exact h.apart i j u v g hij hu1 hv1 hg'
      · intro hg2
        have h1 := low i u g hi1 hu1 hg'
        have h2 := (ho.lt g hg2).1
        omega
    · rcases last j v hv with ⟨hj1, hv1⟩ | ⟨hj1, rfl⟩
      · intro hg2
        have h1 := low j v g hj1 hv1 hg2
        have h2 := (ho.lt g hg').1
        omega
      · omega
theorem MatAt.put {w : World} {lo hi : Nat} {A : Option Addr} {c : Nat} {vs : List Value} {rows : List (List Int)} (h : MatAt w lo hi A c vs rows) {y x : Nat} (hy : y < rows.length) (hx : x < rows[y].length) :
    ∃ g gr cy, A = some ⟨g, 0, none⟩ ∧ g < w.heap.size ∧ w.cell? ⟨g, y, none⟩ = some (.slice (some ⟨gr, 0, none⟩) rows[y].length cy) ∧ lo ≤ gr ∧ gr < hi ∧ gr < w.heap.size ∧ w.frozen? ⟨gr, x, none⟩ = false ∧ w.cell? ⟨gr, x, none⟩ = some (.int .i64 rows[y][x]) ∧
      ∀ v, MatAt (w.setCell ⟨gr, x, none⟩ (.int .i64 v)) lo hi A c vs (rows.set y (rows[y].set x v)) := by
  obtain ⟨g, rfl, hg, _⟩ := h.rd (by omega)
  obtain ⟨Ay, cy, hv, ho, ht⟩ := h.row y hy
  obtain ⟨gr, rfl, hgr, hcr⟩ := (Rd.of_own ho) (by simp [ints]; omega)
  have hcell := (h.outer.cellAt y (by omega)).trans hv
  have hb := ho.lt gr rfl
  refine ⟨g, gr, cy, rfl, hg, hcell, hb.1, ht _ rfl, hb.2, ho.frozenAt x, ?_, fun v => ?_⟩
  · have := ho.cellAt x (by omega)
    rw [this]; simp [ints, hx]
  · refine h.turn hy hv ht _ (by simp) ?_ ((Chg.refl _ _).store (p := ⟨gr, x, none⟩) ⟨_, rfl, rfl⟩ _)
    have := (ho.stored x (.int .i64 v)).1
    rwa [show (ints rows[y]).set x (.int .i64 v) = ints (rows[y].set x v) from by simp [ints, List.map_set]] at this

theorem MatAt.nil (w : World) (lo hi : Nat) (A : Option Addr) (c : Nat) (h : w.ownsRow lo 34 1 (.slice A 0 c) 0 []) (ht : ∀ a, A = some a → a.block < hi) : MatAt w lo hi A c [] [] :=
  ⟨h, ht, fun i hi => absurd hi (Nat.not_lt_zero _), fun i j u v g _ hu => by simp at hu⟩

theorem MatAt.low {w : World} {lo lo' hi hi' : Nat} {A : Option Addr} {c : Nat} {vs : List Value} {rows : List (List Int)} (h : MatAt w lo hi A c vs rows) (h1 : lo' ≤ lo) (h2 : hi ≤ hi') : MatAt w lo' hi' A c vs rows :=
  ⟨own_base h.outer h1, fun a ha => Nat.lt_of_lt_of_le (h.top a ha) h2, fun i hi => (by obtain ⟨Ai, ci, a1, a2, a3⟩ := h.row i hi; exact ⟨Ai, ci, a1, own_base a2 h1, fun a ha => Nat.lt_of_lt_of_le (a3 a ha) h2⟩), h.apart⟩

end Go.Proofs.Ytkamkjbllmgifaa
