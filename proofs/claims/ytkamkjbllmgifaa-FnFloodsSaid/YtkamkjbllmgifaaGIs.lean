/- Grey pictures: whether valid: the reference's test and the program's. -/
import Derived.Test.YtkamkjbllmgifaaIdxF
import Derived.Test.YtkamkjbllmgifaaMatP
import Derived.Test.YtkamkjbllmgifaaSIs
namespace Go.Proofs.Ytkamkjbllmgifaa
open Go.RowKit

/-- A box with a grey picture. -/
structure GreyAt (w : World) (p : Nat) (A : Option Addr) (c : Nat) (rows : List (List Int)) : Prop where
  lt : p < w.heap.size
  cell : w.cell? ⟨p, 0, none⟩ = some (.slice A rows.length c)
  rd : MatRd w A rows
theorem GreyAt.ext {w w' : World} {p : Nat} {A : Option Addr} {c : Nat} {rows : List (List Int)} (h : GreyAt w p A c rows) (hb : Below w.heap.size w w') : GreyAt w' p A c rows :=
  ⟨Nat.lt_of_lt_of_le h.lt hb.size, (hb.cell (p := ⟨p, 0, none⟩) h.lt).trans h.cell, h.rd.ext hb⟩
theorem GreyAt.drewN {w : World} {p : Nat} {A : Option Addr} {c : Nat} {rows : List (List Int)} (h : GreyAt w p A c rows) (k : Nat) : GreyAt (w.drewN k) p A c rows := ⟨h.lt, h.cell, h.rd⟩
theorem GreyAt.boxed {w : World} {A : Option Addr} {c : Nat} {rows : List (List Int)} (h : MatRd w A rows) (t : TypeId) : GreyAt (w.alloc (.cells #[.slice A rows.length c] t)) w.heap.size A c rows :=
  ⟨by simp, cell_new _ _ _ _, h.ext (Ext.more (Ext.refl _) _)⟩

def tabW (rows : List (List Int)) : Nat := (rows.headD []).length
def rowN (most : Int) (W : Nat) (r : List Int) : Bool := decide (r.length = W) && r.all fun n => inB n 0 most
def tabSz (rows : List (List Int)) : Bool := inB (tabW rows) 1 16 && inB rows.length 1 16
def tabOk (most : Int) (rows : List (List Int)) : Bool := tabSz rows && rows.all (rowN most (tabW rows))
def greyOk (rows : List (List Int)) : Bool := tabOk 99 rows
theorem tabW_head {rows : List (List Int)} (h : 0 < rows.length) : rows[0].length = tabW rows := by
  cases rows with
  | nil => simp at h
  | cons r rest => rfl
theorem tab_sizes {most : Int} {rows : List (List Int)} (h : tabOk most rows = true) : 0 < rows.length ∧ rows.length ≤ 16 ∧ 0 < tabW rows ∧ tabW rows ≤ 16 := by
  simp only [tabOk, tabSz, Bool.and_eq_true, inB_iff] at h; omega
theorem tab_row {most : Int} {rows : List (List Int)} (h : tabOk most rows = true) (y : Nat) (hy : y < rows.length) : rows[y].length = tabW rows := by
  simp only [tabOk, Bool.and_eq_true, List.all_eq_true] at h
  have := h.2 rows[y] (List.getElem_mem _)
  simp only [rowN, Bool.and_eq_true, decide_eq_true_eq] at this
  exact this.1
theorem tab_num {most : Int} {rows : List (List Int)} (h : tabOk most rows = true) (y x : Nat) (hy : y < rows.length) (hx : x < rows[y].length) : 0 ≤ rows[y][x] ∧ rows[y][x] ≤ most := by
  simp only [tabOk, Bool.and_eq_true, List.all_eq_true] at h
  have := h.2 rows[y] (List.getElem_mem _)
  simp only [rowN, Bool.and_eq_true, List.all_eq_true] at this
  exact inB_iff.1 (this.2 _ (List.getElem_mem _))
theorem tab_no {most : Int} {rows : List (List Int)} (y : Nat) (hy : y < rows.length) (h : rowN most (tabW rows) rows[y] = false) : tabOk most rows = false := by
  have : rows.all (rowN most (tabW rows)) = false := by
    rw [List.all_eq_false]
    exact ⟨rows[y], List.getElem_mem _, by rw [h]; decide⟩
  simp [tabOk, this]
theorem tab_yes {most : Int} {rows : List (List Int)} (hs : tabSz rows = true) (h : ∀ j (hj : j < rows.length), rowN most (tabW rows) rows[j] = true) : tabOk most rows = true := by
  have : rows.all (rowN most (tabW rows)) = true := by
    rw [List.all_eq_true]
    intro r hr
    obtain ⟨i, hi, rfl⟩ := List.getElem_of_mem hr
    exact h i hi
  simp [tabOk, hs, this]
theorem rowN_len {most : Int} {W : Nat} {r : List Int} (h : ¬ r.length = W) : rowN most W r = false := by simp [rowN, h]
theorem rowN_no {most : Int} {W : Nat} {r : List Int} (x : Nat) (hx : x < r.length) (h : inB r[x] 0 most = false) : rowN most W r = false := by
  have : (r.all fun n => inB n 0 most) = false := by
    rw [List.all_eq_false]
    exact ⟨r[x], List.getElem_mem _, by rw [h]; decide⟩
  simp [rowN, this]
theorem rowN_yes {most : Int} {W : Nat} {r : List Int} (hl : r.length = W) (h : ∀ x (hx : x < r.length), inB r[x] 0 most = true) : rowN most W r = true := by
  have : (r.all fun n => inB n 0 most) = true := by
    rw [List.all_eq_true]
    intro n hn
    obtain ⟨i, hi, rfl⟩ := List.getElem_of_mem hn
    exact h i hi
  simp [rowN, hl, this]

set_option maxRecDepth 100000 in
set_option maxHeartbeats 1000000 in
theorem tableS_any (A : Option Addr) (c : Nat) (rows : List (List Int)) (most : Int) (w : World) (h : MatRd w A rows) (hn : rows.length ≤ 1000000000) (hr : ∀ i (h : i < rows.length), rows[i].length ≤ 1000000000) :
    Calls Try.prog 94 #[.slice A rows.length c, .int .i64 most] w fun e w' => e = .returned (.bool (tabOk most rows)) ∧ ∃ k, w' = w.drewN k := by
  obtain ⟨n, hnL⟩ : ∃ n, rows.length = n := ⟨_, rfl⟩
  rw [hnL] at hn ⊢
  have SN := Lib.hid (fun W => side_any (n : Int) W)
  cases h1 : inB (n : Int) 1 16
  · have F : Hid (tabOk most rows = false) := by simp [Hid, tabOk, tabSz, hnL, h1]
    rw [h1] at SN
    clear hnL h1 h
    go_enter Try.func94, Try.ntmps94
    go_wp2_with (go_at_call 112; refine (SN.out _).mono ?_; rintro e w' ⟨rfl, rfl⟩)
    go_ret
    exact ⟨ret_bool F.out.symm, 0, rfl⟩
  · rw [h1] at SN
    have hb := inB_iff.1 h1
    have n0 : 0 < rows.length := by omega
    obtain ⟨g, rfl, hg, hc⟩ := h n0
    obtain ⟨A0, c0, k0, d0⟩ := hc 0 n0
    have eW := tabW_head n0
    have l0 := hr 0 n0
    generalize rows[0] = r0 at *
    obtain ⟨W, hW⟩ : ∃ W, r0.length = W := ⟨_, rfl⟩
    rw [hW] at k0 eW l0
    have SW := Lib.hid (fun V => side_any (W : Int) V)
    have i0 : (0 : Int) < (n : Int) := by omega
    cases h2 : inB (W : Int) 1 16
    · have F : Hid (tabOk most rows = false) := by simp [Hid, tabOk, tabSz, hnL, ← eW, h2]
      rw [h2] at SW
      clear hnL h1 h h2 hc hb n0 eW hW d0 hr
      go_enter Try.func94, Try.ntmps94
      go_wp2_with (first | (go_at_call_of 112 (Value.int .i64 (n : Int)); refine (SN.out _).mono ?_; rintro e w' ⟨rfl, rfl⟩) | (go_at_call_of 112 (Value.int .i64 (W : Int)); refine (SW.out _).mono ?_; rintro e w' ⟨rfl, rfl⟩))
      go_ret
      exact ⟨ret_bool F.out.symm, 0, rfl⟩
    · have hsz : Hid (tabSz rows = true) := by simp [Hid, tabSz, hnL, ← eW, h1, h2]
      rw [h2] at SW
      have R := Lib.hid (And.intro hnL (And.intro eW (And.intro hc hr)))
      have w16 := (inB_iff.1 h2).2
      clear hnL h1 h h2 hc n0 eW hW d0 hr
      go_enter Try.func94, Try.ntmps94
      go_wp2_with (first | (go_at_call_of 112 (Value.int .i64 (n : Int)); refine (SN.out _).mono ?_; rintro e w' ⟨rfl, rfl⟩) | (go_at_call_of 112 (Value.int .i64 (W : Int)); refine (SW.out _).mono ?_; rintro e w' ⟨rfl, rfl⟩))
      go_loopw [5] (fun i wr => ∃ y j : Nat, y ≤ n ∧ i = .int .i64 y ∧ (∀ j (hj : j < rows.length), j < y → rowN most W rows[j] = true) ∧ wr = w.drewN j) (fun i _ => n - (intOf i).toNat)
      case atStart => exact ⟨0, 0, Nat.zero_le _, rfl, fun j _ h => absurd h (Nat.not_lt_zero _), rfl⟩
      case round =>
        obtain ⟨y, jd, hy, rfl, hok, rfl⟩ := hrel
        have HOK := Lib.hid hok
        clear hok
        by_cases hlt : y < n
        · obtain ⟨hnL, eW, hc, hr⟩ := R.out
          have hys : y < rows.length := by omega
          obtain ⟨Ay, cy, ky, dy⟩ := hc y hys
          have ly := hr y hys
          have NO := Lib.hid (tab_no (most := most) y hys)
          have HY := Lib.hid (fun h : rowN most W rows[y] = true => (show ∀ j (hj : j < rows.length), j < y + 1 → rowN most W rows[j] = true from fun j hj h1 => by
            by_cases e : j = y
            · subst e; exact h
            · exact HOK.out j hj (by omega)))
          rw [← eW] at NO
          clear hnL eW hc hr
          generalize rows[y] = r at *
          obtain ⟨m, hm⟩ : ∃ m, r.length = m := ⟨_, rfl⟩
          rw [hm] at ky ly
          have i2 : (0 : Int) ≤ (y : Int) := by omega
          have i3 : (y : Int) < (n : Int) := by omega
          by_cases hrs : m = W
          · have t1 : ((m : Int) != (W : Int)) = false := by simp [hrs]
            have HRS := Lib.hid hrs
            have HM := Lib.hid hm
            have HD := Lib.hid dy
            clear hrs hm dy
            go_wp2_with fail
            go_quiet (fail)
            go_wp2_with fail
            go_loopw [6] (fun i wr => ∃ x j : Nat, x ≤ m ∧ i = .int .i64 x ∧ (∀ j (hj : j < r.length), j < x → inB r[j] 0 most = true) ∧ wr = w.drewN j) (fun i _ => m - (intOf i).toNat)
            case atStart => exact ⟨0, jd + nq, Nat.zero_le _, rfl, fun j _ h => absurd h (Nat.not_lt_zero _), World.drewN_drewN _ _ _⟩
            case round =>
              obtain ⟨x, jd2, hx, rfl, hok2, rfl⟩ := hrel
              have HO2 := Lib.hid hok2
              clear hok2
              by_cases hxl : x < m
              · have hxr : x < r.length := by rw [HM.out]; exact hxl
                obtain ⟨gr, rfl, hgr, hcr⟩ := HD.out (by simp [ints]; omega)
                have kx := hcr x (by simp [ints]; omega)
                have ex : (ints r)[x]'(by simp [ints]; omega) = .int .i64 r[x] := by simp [ints]
                rw [ex] at kx
                have NO2 := Lib.hid (fun h => NO.out (rowN_no x hxr h))
                have HX := Lib.hid (fun h : inB r[x] 0 most = true => (show ∀ j (hj : j < r.length), j < x + 1 → inB r[j] 0 most = true from fun j hj h1 => by
                  by_cases e : j = x
                  · subst e; exact h
                  · exact HO2.out j hj (by omega)))
                have i4 : (0 : Int) ≤ (x : Int) := by omega
                have i5 : (x : Int) < (m : Int) := by omega
                clear ex hcr
                generalize r[x] = v at *
                have SV := Lib.hid (fun V => inS_any v 0 most V)
                cases hv : inB v 0 most
                · have F := Lib.hid (NO2.out hv)
                  rw [hv] at SV
                  clear hv NO2 HX
                  go_wp2_with (go_at_call 62; refine (SV.out _).mono ?_; rintro e w' ⟨rfl, rfl⟩)
                  go_ret
                  exact ⟨ret_bool F.out.symm, _, rfl⟩
                · have HX' := Lib.hid (HX.out hv)
                  rw [hv] at SV
                  clear hv NO2 HX
                  go_wp2_with (go_at_call 62; refine (SV.out _).mono ?_; rintro e w' ⟨rfl, rfl⟩)
                  go_roundw
                  case rel => exact ⟨x + 1, _, by omega, by go_num, HX'.out, rfl⟩
                  case measure => simp [intOf]; omega
              · obtain rfl : x = m := by omega
                have HY' := Lib.hid (HY.out (rowN_yes (HM.out.trans HRS.out) (fun j hj => HO2.out j hj (by have := HM.out; omega))))
                go_wp2_with fail
                go_roundw
                case rel => exact ⟨y + 1, _, by omega, by go_num, HY'.out, rfl⟩
                case measure => simp [intOf]; omega
          · have t1 : ((m : Int) != (W : Int)) = true := by simp; omega
            have F := Lib.hid (NO.out (rowN_len (by rw [hm]; exact hrs)))
            clear hrs hm dy
            go_wp2_with fail
            go_quiet (fail)
            go_wp2_with fail
            go_ret
            exact ⟨ret_bool F.out.symm, jd + nq, World.drewN_drewN _ _ _⟩
        · obtain rfl : y = n := by omega
          obtain ⟨hnL, eW, hc, hr⟩ := R.out
          have Y : Hid (tabOk most rows = true) := tab_yes hsz.out (fun j hj => by rw [← eW]; exact HOK.out j hj (by omega))
          clear hnL eW hc hr
          go_wp2_with fail
          go_ret
          exact ⟨ret_bool Y.out.symm, _, rfl⟩

set_option maxHeartbeats 400000 in
theorem isGreyS_any (p : Nat) (A : Option Addr) (c : Nat) (rows : List (List Int)) (w : World) (h : GreyAt w p A c rows) (hn : rows.length ≤ 1000000000) (hr : ∀ i (h : i < rows.length), rows[i].length ≤ 1000000000) :
    Calls Try.prog 55 #[.pointer (some ⟨p, 0, none⟩)] w fun e w' => e = .returned (.bool (greyOk rows)) ∧ ∃ k, w' = w.drewN k := by
  have c0 := h.cell
  have T := Lib.hid (tableS_any A c rows 99 w h.rd hn hr)
  unfold greyOk
  clear h hn hr
  generalize rows.length = n at *
  generalize tabOk 99 rows = b at *
  go_enter Try.func55, Try.ntmps55
  go_wp2_with fail
  refine T.out.mono ?_
  rintro e w' ⟨rfl, k, rfl⟩
  go_wp2_with fail
  go_ret
  exact ⟨rfl, k, rfl⟩
end Go.Proofs.Ytkamkjbllmgifaa
