/- Grey pictures: whether valid: the program's test; sizes. -/
import Derived.Test.YtkamkjbllmgifaaGIs
import Derived.Test.YtkamkjbllmgifaaImgOf
namespace Go.Proofs.Ytkamkjbllmgifaa
open Go.RowKit

theorem enters_rowsOk1 : Enters 84 := enters_of Try.func84 (by kernel_rfl) (by kernel_rfl)
theorem enters_rowsOk11 : Enters 86 := enters_of Try.func86 (by kernel_rfl) (by kernel_rfl)
theorem rowsOk11_any (m : Nat) (v most : Int) (w : World) (hm : w.cell? ⟨m, 0, none⟩ = some (.int .i64 most)) :
    Calls Try.prog 86 #[.int .i64 v, .pointer (some ⟨m, 0, none⟩)] w fun e w' => e = .returned (.bool (!inB v 0 most)) ∧ w = w' := by
  have SV := Lib.hid (fun V => in_any v 0 most V)
  generalize inB v 0 most = b at *
  go_enter Try.func86, Try.ntmps86
  go_wp2_with (go_at_call 39; refine (SV.out _).mono ?_; rintro e w' ⟨rfl, rfl⟩)
  go_ret
  exact ⟨rfl, rfl⟩

theorem any_not {α : Type} (p : α → Bool) (l : List α) : ((List.range l.length).any fun i => (l[i]?.map fun x => !p x).getD false) = !l.all p := by
  rw [Bool.eq_iff_iff]
  simp only [List.any_eq_true, List.mem_range, Bool.not_eq_true', List.all_eq_false]
  constructor
  · rintro ⟨i, hi, h⟩
    rw [List.getElem?_eq_getElem hi] at h
    simp at h
    exact ⟨l[i], List.getElem_mem _, by simp [h]⟩
  · rintro ⟨x, hx, h⟩
    obtain ⟨i, hi, rfl⟩ := List.getElem_of_mem hx
    refine ⟨i, hi, ?_⟩
    rw [List.getElem?_eq_getElem hi]
    simpa using h

set_option maxRecDepth 100000 in
set_option maxHeartbeats 1000000 in
/-- The closure at one row. -/
theorem rowsOk1_any (pr pm : Nat) (g : Nat) (cR n : Nat) (A : Option Addr) (c W : Nat) (r : List Int) (most : Int) (w : World) (A0 : Option Addr) (c0 : Nat)
    (hpr : w.cell? ⟨pr, 0, none⟩ = some (.slice (some ⟨g, 0, none⟩) n cR)) (h0 : 0 < n) (hg0 : w.cell? ⟨g, 0, none⟩ = some (.slice A0 W c0)) (hpm : w.cell? ⟨pm, 0, none⟩ = some (.int .i64 most)) (hlt : pm < w.heap.size) (hA : Rd w A (ints r)) (hn : r.length ≤ 1000000000) :
    Calls Try.prog 84 #[.slice A r.length c, .pointer (some ⟨pr, 0, none⟩), .pointer (some ⟨pm, 0, none⟩)] w fun e w' => e = .returned (.bool (!rowN most W r)) ∧ Below w.heap.size w w' := by
  obtain ⟨m, hm⟩ : ∃ m, r.length = m := ⟨_, rfl⟩
  have i0 : (0 : Int) < (n : Int) := by omega
  by_cases hW : m = W
  · have t1 : ((m : Int) != (W : Int)) = false := by simp [hW]
    have CF := Lib.hid (containsFuncI_any A c m 86 #[.pointer (some ⟨pm, 0, none⟩)] (ints r) (fun i => ((r[i]?.map fun x => !inB x 0 most).getD false)) w hA (by simp [ints, hm]) (by omega) enters_rowsOk11
      (fun i hi wr hb => by
        have hi' : i < r.length := by simpa [ints] using hi
        have e1 : (ints r)[i] = .int .i64 r[i] := by simp [ints]
        have e2 : (r[i]?.map fun x => !inB x 0 most).getD false = !inB r[i] 0 most := by rw [List.getElem?_eq_getElem hi']; rfl
        rw [e1, e2]
        exact (rowsOk11_any pm r[i] most wr ((hb.cell (p := ⟨pm, 0, none⟩) hlt).trans hpm)).mono fun _ _ ⟨h1, h2⟩ => ⟨h1, by rw [h2]; exact Ext.refl _⟩))
    have E := Lib.hid (any_not (fun x => inB x 0 most) r)
    rw [hm] at E
    have F : Hid (rowN most W r = r.all fun x => inB x 0 most) := by simp [Hid, rowN, hm, hW]
    rw [hm]
    have hmf : ∀ (fn : Fn) (first cap : Array Value) (w : World), (Instr.makeFunc fn first cap).run Try.prog w = .ok (.func fn first cap) w := fun _ _ _ _ => rfl
    rw [E.out] at CF
    rw [F.out]
    clear E F hm hW hA hn
    generalize (r.all fun x => inB x 0 most) = b at *
    go_enter Try.func84, Try.ntmps84
    go_wp2_with fail
    refine CF.out.mono ?_
    rintro e w2 ⟨rfl, hb2⟩
    go_wp2_with fail
    go_ret
    exact ⟨rfl, hb2⟩
  · have t1 : ((m : Int) != (W : Int)) = true := by simp; omega
    have F : Hid (rowN most W r = false) := rowN_len (by rw [hm]; exact hW)
    rw [hm, F.out]
    clear F hm hW hA hn
    go_enter Try.func84, Try.ntmps84
    go_wp2_with fail
    go_ret
    exact ⟨rfl, Ext.refl _⟩

def rowOf (rows : List (List Int)) (i : Nat) : List Int := rows.getD i []
theorem rowOf_eq {rows : List (List Int)} {i : Nat} (h : i < rows.length) : rowOf rows i = rows[i] := by simp [rowOf, List.getD_eq_getElem?_getD, List.getElem?_eq_getElem h]

set_option maxRecDepth 100000 in
set_option maxHeartbeats 1000000 in
theorem rowsOk_any (A : Option Addr) (c : Nat) (rows : List (List Int)) (most : Int) (w : World) (h : MatRd w A rows) (hn : rows.length ≤ 1000000000) (hr : ∀ i (h : i < rows.length), rows[i].length ≤ 1000000000) :
    Calls Try.prog 50 #[.slice A rows.length c, .int .i64 most] w fun e w' => e = .returned (.bool (tabOk most rows)) ∧ Below w.heap.size w w' := by
  obtain ⟨n, hnL⟩ : ∃ n, rows.length = n := ⟨_, rfl⟩
  rw [hnL] at hn ⊢
  by_cases hn0 : n = 0
  · have F : Hid (tabOk most rows = false) := by simp [Hid, tabOk, tabSz, inB, hnL, hn0]
    have t0 : ((n : Int) == 0) = true := by simp [hn0]
    clear hnL hn0 h hr
    go_enter Try.func50, Try.ntmps50
    go_wp2_with fail
    go_quiet (fail)
    go_wp2_with fail
    go_ret
    exact ⟨ret_bool F.out.symm, Ext.drawN (Ext.more (Ext.more (Ext.refl _) _) _) _⟩
  · have t0 : ((n : Int) == 0) = false := by simp [hn0]
    obtain ⟨g, rfl, hg, hc⟩ := h (by omega)
    obtain ⟨A0, c0, k0, d0⟩ := hc 0 (by omega)
    have eW := tabW_head (rows := rows) (by omega)
    generalize rows[0] = r0 at *
    obtain ⟨W, hW⟩ : ∃ W, r0.length = W := ⟨_, rfl⟩
    rw [hW] at k0 eW
    have SZ := Lib.hid (fun V => sizeOk_any W n V)
    have esz : (inB (W : Int) 1 16 && inB (n : Int) 1 16) = tabSz rows := by simp [tabSz, eW, hnL]
    rw [esz] at SZ
    have n0 : (0 : Int) < (n : Int) := by omega
    have g1 : g ≠ w.heap.size := by omega
    have g2 : g ≠ w.heap.size + 1 := by omega
    cases hsz : tabSz rows
    · have F : Hid (tabOk most rows = false) := by simp [Hid, tabOk, hsz]
      rw [hsz] at SZ
      clear hsz hc hnL eW h hn0 esz d0 hr hW
      go_enter Try.func50, Try.ntmps50
      go_wp2_with fail
      go_quiet ((go_at_call 82; exact Calls.quiet_of_same ((SZ.out _).mono fun _ _ ⟨h, k⟩ => ⟨h, k.symm⟩)))
      go_wp2_with fail
      go_ret
      exact ⟨ret_bool F.out.symm, Ext.drawN (Ext.more (Ext.more (Ext.refl _) _) _) _⟩
    · rw [hsz] at SZ
      have W0 := Lib.hid (fun V (hb : Below w.heap.size w V) => h.ext hb)
      have CF := Lib.hid (fun (V : World) (hb : Below w.heap.size w V) (hz : w.heap.size + 1 < V.heap.size) (e1 : V.cell? ⟨w.heap.size, 0, none⟩ = some (.slice (some ⟨g, 0, none⟩) n c)) (e2 : V.cell? ⟨w.heap.size + 1, 0, none⟩ = some (.int .i64 most)) =>
        (show Calls Try.prog 83 #[.slice (some ⟨g, 0, none⟩) n c, .func (.func 84) #[] #[.pointer (some ⟨w.heap.size, 0, none⟩), .pointer (some ⟨w.heap.size + 1, 0, none⟩)]] V fun e w' => e = .returned (.bool (!tabOk most rows)) ∧ Below V.heap.size V w' from by
        obtain ⟨vs, hvs, hvl⟩ : ∃ vs : List Value, (∀ i (h : i < rows.length), ∃ Ai ci, vs[i]? = some (.slice Ai rows[i].length ci) ∧ w.cell? ⟨g, i, none⟩ = some (.slice Ai rows[i].length ci) ∧ Rd w Ai (ints rows[i])) ∧ vs.length = n := by
          refine ⟨(List.range n).map fun i => ((w.cell? ⟨g, i, none⟩).getD (.bool false)), fun i hi => ?_, by simp⟩
          obtain ⟨Ai, ci, k1, k2⟩ := hc i hi
          refine ⟨Ai, ci, ?_, k1, k2⟩
          rw [List.getElem?_map, List.getElem?_range (by omega)]
          simp [k1]
        have Rv : Rd V (some ⟨g, 0, none⟩) vs := by
          intro _
          refine ⟨g, rfl, Nat.lt_of_lt_of_le hg hb.size, fun i hi => ?_⟩
          obtain ⟨Ai, ci, k1, k2, _⟩ := hvs i (by omega)
          rw [List.getElem?_eq_getElem hi] at k1
          rw [(hb.cell (p := ⟨g, i, none⟩) hg).trans k2, Option.some.inj k1]
        refine (containsFuncM_any (some ⟨g, 0, none⟩) c n 84 _ vs (fun i => !rowN most W (rowOf rows i)) V Rv hvl hn enters_rowsOk1 ?_).mono ?_
        · intro i hi wr hb2
          have hi' : i < rows.length := by omega
          obtain ⟨Ai, ci, k1, k2, k3⟩ := hvs i hi'
          rw [List.getElem?_eq_getElem hi] at k1
          rw [Option.some.inj k1, rowOf_eq hi']
          have hb3 := Ext.then_ hb hb2
          exact rowsOk1_any w.heap.size (w.heap.size + 1) g c n Ai ci W rows[i] most wr A0 c0 ((hb2.cell (p := ⟨w.heap.size, 0, none⟩) (by show w.heap.size < V.heap.size; omega)).trans e1) (by omega) ((hb3.cell (p := ⟨g, 0, none⟩) hg).trans k0)
            ((hb2.cell (p := ⟨w.heap.size + 1, 0, none⟩) hz).trans e2) (by have := hb2.size; omega) (k3.ext hb3) (hr i hi')
        · rintro e w' ⟨rfl, hb2⟩
          refine ⟨ret_bool ?_, hb2⟩
          have e3 : tabOk most rows = rows.all (rowN most W) := by simp [tabOk, hsz, eW]
          rw [e3, ← any_not, hnL, Bool.eq_iff_iff]
          simp only [List.any_eq_true, List.mem_range]
          constructor
          · rintro ⟨i, hi, h⟩
            refine ⟨i, hi, ?_⟩
            rw [List.getElem?_eq_getElem (by omega)]
            rw [rowOf_eq (by omega)] at h
            simpa using h
          · rintro ⟨i, hi, h⟩
            refine ⟨i, hi, ?_⟩
            rw [List.getElem?_eq_getElem (by omega)] at h
            rw [rowOf_eq (by omega)]
            simpa using h))
      clear hsz hc hnL eW h hn0 esz d0 hr hW W0
      generalize tabOk most rows = b at *
      have hmf : ∀ (fn : Fn) (first cap : Array Value) (w : World), (Instr.makeFunc fn first cap).run Try.prog w = .ok (.func fn first cap) w := fun _ _ _ _ => rfl
      go_enter Try.func50, Try.ntmps50
      go_wp2_with fail
      go_quiet ((go_at_call 82; exact Calls.quiet_of_same ((SZ.out _).mono fun _ _ ⟨h, k⟩ => ⟨h, k.symm⟩)))
      go_wp2_with fail
      refine (CF.out _ (Ext.drawN (Ext.more (Ext.more (Ext.refl _) _) _) _) (by simp [World.drewN]) (by simp [go_sem]) (by simp [go_sem])).mono ?_
      rintro e w2 ⟨rfl, hb2⟩
      go_wp2_with fail
      go_ret
      exact ⟨rfl, Ext.then_ (Ext.drawN (Ext.more (Ext.more (Ext.refl _) _) _) _) hb2⟩
set_option maxHeartbeats 400000 in
theorem validGrey_any (A : Option Addr) (c : Nat) (rows : List (List Int)) (w : World) (h : MatRd w A rows) (hn : rows.length ≤ 1000000000) (hr : ∀ i (h : i < rows.length), rows[i].length ≤ 1000000000) :
    Calls Try.prog 38 #[.agg #[.slice A rows.length c]] w fun e w' => e = .returned (.bool (greyOk rows)) ∧ Below w.heap.size w w' := by
  have R := Lib.hid (fun V (hb : Below w.heap.size w V) => rowsOk_any A c rows 99 V (h.ext hb) hn hr)
  unfold greyOk
  clear h hn hr
  generalize rows.length = n at *
  generalize tabOk 99 rows = b at *
  go_enter Try.func38, Try.ntmps38
  go_wp2_with fail
  refine (R.out _ (Ext.more (Ext.refl _) _)).mono ?_
  rintro e w2 ⟨rfl, hb2⟩
  go_wp2_with fail
  go_ret
  exact ⟨rfl, Ext.then_ (Ext.more (Ext.refl _) _) hb2⟩
set_option maxHeartbeats 400000 in
theorem sizes_any (p : Nat) (A : Option Addr) (c : Nat) (rows : List (List Int)) (w : World) (h : GreyAt w p A c rows) (hn : 0 < rows.length) :
    Calls Try.prog 67 #[.pointer (some ⟨p, 0, none⟩)] w fun e w' => e = .returned (.tuple #[.int .i64 (tabW rows : Int), .int .i64 (rows.length : Int)]) ∧ ∃ k, w' = w.drewN k := by
  have c0 := h.cell
  obtain ⟨g, rfl, hg, hc⟩ := h.rd hn
  obtain ⟨A0, c1, k0, d0⟩ := hc 0 hn
  rw [tabW_head hn] at k0
  generalize tabW rows = W at *
  have i0 : (0 : Int) < (rows.length : Int) := by omega
  clear hc d0 h
  generalize rows.length = n at *
  go_enter Try.func67, Try.ntmps67
  go_wp2_with fail
  go_quiet (fail)
  go_wp2_with fail
  go_ret2
  exact ⟨rfl, _, rfl⟩
end Go.Proofs.Ytkamkjbllmgifaa
