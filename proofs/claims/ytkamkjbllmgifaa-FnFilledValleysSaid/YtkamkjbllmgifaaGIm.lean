/- slices.IndexFunc and slices.ContainsFunc, at whatever function value that makes memory of its own alone. Grey pictures: whether valid: the reference's test and the program's. Grey pictures: whether valid: the program's test; sizes. -/
import Derived.Test.YtkamkjbllmgifaaEq
import Derived.Test.YtkamkjbllmgifaaPicL
import Derived.Test.YtkamkjbllmgifaaMatP
import Derived.Test.YtkamkjbllmgifaaSIs
import Derived.Test.YtkamkjbllmgifaaImgOf
namespace Go.Proofs.Ytkamkjbllmgifaa
open Go.RowKit

/-- The first of n places at which b holds; -1. -/
def IdxF (b : Nat → Bool) (n : Nat) (r : Int) : Prop := (∃ k : Nat, r = k ∧ k < n ∧ b k = true ∧ ∀ j, j < k → b j = false) ∨ (r = -1 ∧ ∀ j, j < n → b j = false)
theorem IdxF.any {b : Nat → Bool} {n : Nat} {r : Int} (h : IdxF b n r) : decide (0 ≤ r) = (List.range n).any b := by
  rcases h with ⟨k, rfl, hk, hb, _⟩ | ⟨rfl, hb⟩
  · have : (List.range n).any b = true := List.any_eq_true.2 ⟨k, by simpa using hk, hb⟩
    rw [this]; simp
  · have : (List.range n).any b = false := by
      rw [List.any_eq_false]
      intro x hx
      rw [hb x (by simpa using hx)]; simp
    rw [this]; decide

set_option maxRecDepth 100000 in
set_option maxHeartbeats 400000 in
theorem indexFuncM_any (A : Option Addr) (c n : Nat) (K : FuncId) (caps : Array Value) (vs : List Value) (b : Nat → Bool) (w : World) (hA : Rd w A vs) (hl : vs.length = n) (hn : n ≤ 1000000000) (hK : Enters K)
    (hF : ∀ i (h : i < vs.length), ∀ wr, Below w.heap.size w wr → Calls Try.prog K (#[vs[i]] ++ caps) wr fun e w' => e = .returned (.bool (b i)) ∧ Below wr.heap.size wr w') :
    Calls Try.prog 103 #[.slice A n c, .func (.func K) #[] caps] w fun e w' => (∃ r : Int, e = .returned (.int .i64 r) ∧ IdxF b n r) ∧ Below w.heap.size w w' := by
  have FH := Lib.hid hF
  have AH := Lib.hid (fun V (hb : Below w.heap.size w V) => hA.ext hb)
  have HL := Lib.hid hl
  clear hF hl hA
  unfold Enters at hK
  go_enter Try.func103, Try.ntmps103
  go_wp2_with fail
  go_loopw [8] (fun i wr => ∃ k : Nat, k ≤ n ∧ i = .int .i64 k ∧ Hid (∀ j, j < k → b j = false) ∧ Below w.heap.size w wr) (fun i _ => n - (intOf i).toNat)
  case atStart => exact ⟨0, Nat.zero_le _, rfl, fun j h => absurd h (Nat.not_lt_zero _), Ext.refl _⟩
  case round =>
    obtain ⟨k, hk, rfl, hno, hb⟩ := hrel
    by_cases hlt : k < n
    · have hkv : k < vs.length := by rw [HL.out]; exact hlt
      obtain ⟨g, rfl, hg, hc⟩ := AH.out wr hb (by omega)
      have c1 := hc k hkv
      have C := Lib.hid (FH.out k hkv wr hb)
      have i0 : (0 : Int) ≤ (k : Int) := by omega
      have i1 : (k : Int) < (n : Int) := by omega
      clear hc
      generalize vs[k] = v at *
      obtain ⟨bk, hbk⟩ : ∃ x, b k = x := ⟨_, rfl⟩
      have HB := Lib.hid hbk
      rw [hbk] at C
      clear hbk
      cases bk
      · go_wp2_with fail
        refine C.out.mono ?_
        rintro e w2 ⟨rfl, hb2⟩
        go_wp2_with fail
        go_roundw
        case rel => exact ⟨k + 1, by omega, by go_num, fun j hj => (by rcases Nat.lt_succ_iff_lt_or_eq.1 hj with h | h; exact hno j h; rw [h]; exact HB.out), Ext.then_ hb hb2⟩
        case measure => simp [intOf]; omega
      · go_wp2_with fail
        refine C.out.mono ?_
        rintro e w2 ⟨rfl, hb2⟩
        have R : Hid (IdxF b n k) := .inl ⟨k, rfl, hlt, HB.out, hno⟩
        clear hno
        go_wp2_with fail
        go_ret
        exact ⟨⟨_, rfl, R.out⟩, Ext.then_ hb hb2⟩
    · obtain rfl : k = n := by omega
      have R : Hid (IdxF b k (-1)) := .inr ⟨rfl, hno⟩
      clear hno
      go_wp2_with fail
      go_ret
      exact ⟨⟨_, rfl, R.out⟩, hb⟩
set_option maxRecDepth 100000 in
set_option maxHeartbeats 400000 in
theorem containsFuncM_any (A : Option Addr) (c n : Nat) (K : FuncId) (caps : Array Value) (vs : List Value) (b : Nat → Bool) (w : World) (hA : Rd w A vs) (hl : vs.length = n) (hn : n ≤ 1000000000) (hK : Enters K)
    (hF : ∀ i (h : i < vs.length), ∀ wr, Below w.heap.size w wr → Calls Try.prog K (#[vs[i]] ++ caps) wr fun e w' => e = .returned (.bool (b i)) ∧ Below wr.heap.size wr w') :
    Calls Try.prog 83 #[.slice A n c, .func (.func K) #[] caps] w fun e w' => e = .returned (.bool ((List.range n).any b)) ∧ Below w.heap.size w w' := by
  have C := Lib.hid (indexFuncM_any A c n K caps vs b w hA hl hn hK hF)
  clear hF hA hl hK
  go_enter Try.func83, Try.ntmps83
  go_wp2_with fail
  refine C.out.mono ?_
  rintro e w2 ⟨⟨r, rfl, hr⟩, hb2⟩
  have E := Lib.hid hr.any
  clear hr
  go_wp2_with fail
  go_ret
  exact ⟨ret_bool E.out, hb2⟩
set_option maxRecDepth 100000 in
set_option maxHeartbeats 400000 in
theorem indexFuncI_any (A : Option Addr) (c n : Nat) (K : FuncId) (caps : Array Value) (vs : List Value) (b : Nat → Bool) (w : World) (hA : Rd w A vs) (hl : vs.length = n) (hn : n ≤ 1000000000) (hK : Enters K)
    (hF : ∀ i (h : i < vs.length), ∀ wr, Below w.heap.size w wr → Calls Try.prog K (#[vs[i]] ++ caps) wr fun e w' => e = .returned (.bool (b i)) ∧ Below wr.heap.size wr w') :
    Calls Try.prog 104 #[.slice A n c, .func (.func K) #[] caps] w fun e w' => (∃ r : Int, e = .returned (.int .i64 r) ∧ IdxF b n r) ∧ Below w.heap.size w w' := by
  have FH := Lib.hid hF
  have AH := Lib.hid (fun V (hb : Below w.heap.size w V) => hA.ext hb)
  have HL := Lib.hid hl
  clear hF hl hA
  unfold Enters at hK
  go_enter Try.func104, Try.ntmps104
  go_wp2_with fail
  go_loopw [8] (fun i wr => ∃ k : Nat, k ≤ n ∧ i = .int .i64 k ∧ Hid (∀ j, j < k → b j = false) ∧ Below w.heap.size w wr) (fun i _ => n - (intOf i).toNat)
  case atStart => exact ⟨0, Nat.zero_le _, rfl, fun j h => absurd h (Nat.not_lt_zero _), Ext.refl _⟩
  case round =>
    obtain ⟨k, hk, rfl, hno, hb⟩ := hrel
    by_cases hlt : k < n
    · have hkv : k < vs.length := by rw [HL.out]; exact hlt
      obtain ⟨g, rfl, hg, hc⟩ := AH.out wr hb (by omega)
      have c1 := hc k hkv
      have C := Lib.hid (FH.out k hkv wr hb)
      have i0 : (0 : Int) ≤ (k : Int) := by omega
      have i1 : (k : Int) < (n : Int) := by omega
      clear hc
      generalize vs[k] = v at *
      obtain ⟨bk, hbk⟩ : ∃ x, b k = x := ⟨_, rfl⟩
      have HB := Lib.hid hbk
      rw [hbk] at C
      clear hbk
      cases bk
      · go_wp2_with fail
        refine C.out.mono ?_
        rintro e w2 ⟨rfl, hb2⟩
        go_wp2_with fail
        go_roundw
        case rel => exact ⟨k + 1, by omega, by go_num, fun j hj => (by rcases Nat.lt_succ_iff_lt_or_eq.1 hj with h | h; exact hno j h; rw [h]; exact HB.out), Ext.then_ hb hb2⟩
        case measure => simp [intOf]; omega
      · go_wp2_with fail
        refine C.out.mono ?_
        rintro e w2 ⟨rfl, hb2⟩
        have R : Hid (IdxF b n k) := .inl ⟨k, rfl, hlt, HB.out, hno⟩
        clear hno
        go_wp2_with fail
        go_ret
        exact ⟨⟨_, rfl, R.out⟩, Ext.then_ hb hb2⟩
    · obtain rfl : k = n := by omega
      have R : Hid (IdxF b k (-1)) := .inr ⟨rfl, hno⟩
      clear hno
      go_wp2_with fail
      go_ret
      exact ⟨⟨_, rfl, R.out⟩, hb⟩
set_option maxRecDepth 100000 in
set_option maxHeartbeats 400000 in
theorem containsFuncI_any (A : Option Addr) (c n : Nat) (K : FuncId) (caps : Array Value) (vs : List Value) (b : Nat → Bool) (w : World) (hA : Rd w A vs) (hl : vs.length = n) (hn : n ≤ 1000000000) (hK : Enters K)
    (hF : ∀ i (h : i < vs.length), ∀ wr, Below w.heap.size w wr → Calls Try.prog K (#[vs[i]] ++ caps) wr fun e w' => e = .returned (.bool (b i)) ∧ Below wr.heap.size wr w') :
    Calls Try.prog 85 #[.slice A n c, .func (.func K) #[] caps] w fun e w' => e = .returned (.bool ((List.range n).any b)) ∧ Below w.heap.size w w' := by
  have C := Lib.hid (indexFuncI_any A c n K caps vs b w hA hl hn hK hF)
  clear hF hA hl hK
  go_enter Try.func85, Try.ntmps85
  go_wp2_with fail
  refine C.out.mono ?_
  rintro e w2 ⟨⟨r, rfl, hr⟩, hb2⟩
  have E := Lib.hid hr.any
  clear hr
  go_wp2_with fail
  go_ret
  exact ⟨ret_bool E.out, hb2⟩
end Go.Proofs.Ytkamkjbllmgifaa

namespace Go.Proofs.Ytkamkjbllmgifaa
open Go.RowKit

/-- A box with a grey picture. -/
structure GreyAt (w : World) (p : Nat) (A : Option Addr) (c : Nat) (rows : List (List Int)) : Prop where
  lt : p < w.heap.size
  cell : w.cell? ⟨p, 0, none⟩ = some (.slice A rows.length c)
  rd : MatRd w A rows
theorem GreyAt.ext {w w' : World} {p : Nat} {A : Option Addr} {c : Nat} {rows : List (List Int)} (h : GreyAt w p A c rows) (hb : Below w.heap.size w w') : GreyAt w' p A c rows :=
  ⟨Nat.lt_of_lt_of_le h.lt hb.size, (hb.cell (p := ⟨p, 0, none⟩) h.lt).trans h.cell, h.rd.ext hb⟩
theorem GreyAt.drewN {w : World} {p : Nat} {A : Option Addr} {c : Nat} {rows : List (List Int)} (h : GreyAt w p A c rows) (k : Nat) : GreyAt (w.drewN k) p A c rows := ⟨h.lt, h.cell, h.rd⟩
theorem GreyAt.boxed {w : World} {A : Option Addr} {c : Nat} {rows : List (List Int)} (h : MatRd w A rows) (t : TypeId) : GreyAt (w.alloc (.cells #[.slice A rows.length c] t)) w.heap.size A c rows :=
  ⟨by simp, cell_new _ _ _ _, h.ext (Ext.more (Ext.refl _) _)⟩

def tabW (rows : List (List Int)) : Nat := (rows.headD []).length
def rowN (most : Int) (W : Nat) (r : List Int) : Bool := decide (r.length = W) && r.all fun n => inB n 0 most
def tabSz (rows : List (List Int)) : Bool := inB (tabW rows) 1 16 && inB rows.length 1 16
def tabOk (most : Int) (rows : List (List Int)) : Bool := tabSz rows && rows.all (rowN most (tabW rows))
def greyOk (rows : List (List Int)) : Bool := tabOk 99 rows
theorem tabW_head {rows : List (List Int)} (h : 0 < rows.length) : rows[0].length = tabW rows := by
  cases rows with
  | nil => simp at h
  | cons r rest => rfl
theorem tab_sizes {most : Int} {rows : List (List Int)} (h : tabOk most rows = true) : 0 < rows.length ∧ rows.length ≤ 16 ∧ 0 < tabW rows ∧ tabW rows ≤ 16 := by
  simp only [tabOk, tabSz, Bool.and_eq_true, inB_iff] at h; omega
theorem tab_row {most : Int} {rows : List (List Int)} (h : tabOk most rows = true) (y : Nat) (hy : y < rows.length) : rows[y].length = tabW rows := by
  simp only [tabOk, Bool.and_eq_true, List.all_eq_true] at h
  have := h.2 rows[y] (List.getElem_mem _)
  simp only [rowN, Bool.and_eq_true, decide_eq_true_eq] at this
  exact this.1
theorem tab_num {most : Int} {rows : List (List Int)} (h : tabOk most rows = true) (y x : Nat) (hy : y < rows.length) (hx : x < rows[y].length) : 0 ≤ rows[y][x] ∧ rows[y][x] ≤ most := by
  simp only [tabOk, Bool.and_eq_true, List.all_eq_true] at h
  have := h.2 rows[y] (List.getElem_mem _)
  simp only [rowN, Bool.and_eq_true, List.all_eq_true] at this
  exact inB_iff.1 (this.2 _ (List.getElem_mem _))
theorem tab_no {most : Int} {rows : List (List Int)} (y : Nat) (hy : y < rows.length) (h : rowN most (tabW rows) rows[y] = false) : tabOk most rows = false := by
  have : rows.all (rowN most (tabW rows)) = false := by
    rw [List.all_eq_false]
    exact ⟨rows[y], List.getElem_mem _, by rw [h]; decide⟩
  simp [tabOk, this]
theorem tab_yes {most : Int} {rows : List (List Int)} (hs : tabSz rows = true) (h : ∀ j (hj : j < rows.length), rowN most (tabW rows) rows[j] = true) : tabOk most rows = true := by
  have : rows.all (rowN most (tabW rows)) = true := by
    rw [List.all_eq_true]
    intro r hr
    obtain ⟨i, hi, rfl⟩ := List.getElem_of_mem hr
    exact h i hi
  simp [tabOk, hs, this]
theorem rowN_len {most : Int} {W : Nat} {r : List Int} (h : ¬ r.length = W) : rowN most W r = false := by simp [rowN, h]
theorem rowN_no {most : Int} {W : Nat} {r : List Int} (x : Nat) (hx : x < r.length) (h : inB r[x] 0 most = false) : rowN most W r = false := by
  have : (r.all fun n => inB n 0 most) = false := by
    rw [List.all_eq_false]
    exact ⟨r[x], List.getElem_mem _, by rw [h]; decide⟩
  simp [rowN, this]
theorem rowN_yes {most : Int} {W : Nat} {r : List Int} (hl : r.length = W) (h : ∀ x (hx : x < r.length), inB r[x] 0 most = true) : rowN most W r = true := by
  have : (r.all fun n => inB n 0 most) = true := by
    rw [List.all_eq_true]
    intro n hn
    obtain ⟨i, hi, rfl⟩ := List.getElem_of_mem hn
    exact h i hi
  simp [rowN, hl, this]

set_option maxRecDepth 100000 in
set_option maxHeartbeats 1000000 in
theorem tableS_any (A : Option Addr) (c : Nat) (rows : List (List Int)) (most : Int) (w : World) (h : MatRd w A rows) (hn : rows.length ≤ 1000000000) (hr : ∀ i (h : i < rows.length), rows[i].length ≤ 1000000000) :
    Calls Try.prog 94 #[.slice A rows.length c, .int .i64 most] w fun e w' => e = .returned (.bool (tabOk most rows)) ∧ ∃ k, w' = w.drewN k := by
  obtain ⟨n, hnL⟩ : ∃ n, rows.length = n := ⟨_, rfl⟩
  rw [hnL] at hn ⊢
  have SN := Lib.hid (fun W => side_any (n : Int) W)
  cases h1 : inB (n : Int) 1 16
  · have F : Hid (tabOk most rows = false) := by simp [Hid, tabOk, tabSz, hnL, h1]
    rw [h1] at SN
    clear hnL h1 h
    go_enter Try.func94, Try.ntmps94
    go_wp2_with (go_at_call 112; refine (SN.out _).mono ?_; rintro e w' ⟨rfl, rfl⟩)
    go_ret
    exact ⟨ret_bool F.out.symm, 0, rfl⟩
  · rw [h1] at SN
    have hb := inB_iff.1 h1
    have n0 : 0 < rows.length := by omega
    obtain ⟨g, rfl, hg, hc⟩ := h n0
    obtain ⟨A0, c0, k0, d0⟩ := hc 0 n0
    have eW := tabW_head n0
    have l0 := hr 0 n0
    generalize rows[0] = r0 at *
    obtain ⟨W, hW⟩ : ∃ W, r0.length = W := ⟨_, rfl⟩
    rw [hW] at k0 eW l0
    have SW := Lib.hid (fun V => side_any (W : Int) V)
    have i0 : (0 : Int) < (n : Int) := by omega
    cases h2 : inB (W : Int) 1 16
    · have F : Hid (tabOk most rows = false) := by simp [Hid, tabOk, tabSz, hnL, ← eW, h2]
      rw [h2] at SW
      clear hnL h1 h h2 hc hb n0 eW hW d0 hr
      go_enter Try.func94, Try.ntmps94
      go_wp2_with (first | (go_at_call_of 112 (Value.int .i64 (n : Int)); refine (SN.out _).mono ?_; rintro e w' ⟨rfl, rfl⟩) | (go_at_call_of 112 (Value.int .i64 (W : Int)); refine (SW.out _).mono ?_; rintro e w' ⟨rfl, rfl⟩))
      go_ret
      exact ⟨ret_bool F.out.symm, 0, rfl⟩
    · have hsz : Hid (tabSz rows = true) := by simp [Hid, tabSz, hnL, ← eW, h1, h2]
      rw [h2] at SW
      have R := Lib.hid (And.intro hnL (And.intro eW (And.intro hc hr)))
      have w16 := (inB_iff.1 h2).2
      clear hnL h1 h h2 hc n0 eW hW d0 hr
      go_enter Try.func94, Try.ntmps94
      go_wp2_with (first | (go_at_call_of 112 (Value.int .i64 (n : Int)); refine (SN.out _).mono ?_; rintro e w' ⟨rfl, rfl⟩) | (go_at_call_of 112 (Value.int .i64 (W : Int)); refine (SW.out _).mono ?_; rintro e w' ⟨rfl, rfl⟩))
      go_loopw [5] (fun i wr => ∃ y j : Nat, y ≤ n ∧ i = .int .i64 y ∧ (∀ j (hj : j < rows.length), j < y → rowN most W rows[j] = true) ∧ wr = w.drewN j) (fun i _ => n - (intOf i).toNat)
      case atStart => exact ⟨0, 0, Nat.zero_le _, rfl, fun j _ h => absurd h (Nat.not_lt_zero _), rfl⟩
      case round =>
        obtain ⟨y, jd, hy, rfl, hok, rfl⟩ := hrel
        have HOK := Lib.hid hok
        clear hok
        by_cases hlt : y < n
        · obtain ⟨hnL, eW, hc, hr⟩ := R.out
          have hys : y < rows.length := by omega
          obtain ⟨Ay, cy, ky, dy⟩ := hc y hys
          have ly := hr y hys
          have NO := Lib.hid (tab_no (most := most) y hys)
          have HY := Lib.hid (fun h : rowN most W rows[y] = true => (show ∀ j (hj : j < rows.length), j < y + 1 → rowN most W rows[j] = true from fun j hj h1 => by
            by_cases e : j = y
            · subst e; exact h
            · exact HOK.out j hj (by omega)))
          rw [← eW] at NO
          clear hnL eW hc hr
          generalize rows[y] = r at *
          obtain ⟨m, hm⟩ : ∃ m, r.length = m := ⟨_, rfl⟩
          rw [hm] at ky ly
          have i2 : (0 : Int) ≤ (y : Int) := by omega
          have i3 : (y : Int) < (n : Int) := by omega
          by_cases hrs : m = W
          · have t1 : ((m : Int) != (W : Int)) = false := by simp [hrs]
            have HRS := Lib.hid hrs
            have HM := Lib.hid hm
            have HD := Lib.hid dy
            clear hrs hm dy
            go_wp2_with fail
            go_quiet (fail)
            go_wp2_with fail
            go_loopw [6] (fun i wr => ∃ x j : Nat, x ≤ m ∧ i = .int .i64 x ∧ (∀ j (hj : j < r.length), j < x → inB r[j] 0 most = true) ∧ wr = w.drewN j) (fun i _ => m - (intOf i).toNat)
            case atStart => exact ⟨0, jd + nq, Nat.zero_le _, rfl, fun j _ h => absurd h (Nat.not_lt_zero _), World.drewN_drewN _ _ _⟩
            case round =>
              obtain ⟨x, jd2, hx, rfl, hok2, rfl⟩ := hrel
              have HO2 := Lib.hid hok2
              clear hok2
              by_cases hxl : x < m
              · have hxr : x < r.length := by rw [HM.out]; exact hxl
                obtain ⟨gr, rfl, hgr, hcr⟩ := HD.out (by simp [ints]; omega)
                have kx := hcr x (by simp [ints]; omega)
                have ex : (ints r)[x]'(by simp [ints]; omega) = .int .i64 r[x] := by simp [ints]
                rw [ex] at kx
                have NO2 := Lib.hid (fun h => NO.out (rowN_no x hxr h))
                have HX := Lib.hid (fun h : inB r[x] 0 most = true => (show ∀ j (hj : j < r.length), j < x + 1 → inB r[j] 0 most = true from fun j hj h1 => by
                  by_cases e : j = x
                  · subst e; exact h
                  · exact HO2.out j hj (by omega)))
                have i4 : (0 : Int) ≤ (x : Int) := by omega
                have i5 : (x : Int) < (m : Int) := by omega
                clear ex hcr
                generalize r[x] = v at *
                have SV := Lib.hid (fun V => inS_any v 0 most V)
                cases hv : inB v 0 most
                · have F := Lib.hid (NO2.out hv)
                  rw [hv] at SV
                  clear hv NO2 HX
                  go_wp2_with (go_at_call 62; refine (SV.out _).mono ?_; rintro e w' ⟨rfl, rfl⟩)
                  go_ret
                  exact ⟨ret_bool F.out.symm, _, rfl⟩
                · have HX' := Lib.hid (HX.out hv)
                  rw [hv] at SV
                  clear hv NO2 HX
                  go_wp2_with (go_at_call 62; refine (SV.out _).mono ?_; rintro e w' ⟨rfl, rfl⟩)
                  go_roundw
                  case rel => exact ⟨x + 1, _, by omega, by go_num, HX'.out, rfl⟩
                  case measure => simp [intOf]; omega
              · obtain rfl : x = m := by omega
                have HY' := Lib.hid (HY.out (rowN_yes (HM.out.trans HRS.out) (fun j hj => HO2.out j hj (by have := HM.out; omega))))
                go_wp2_with fail
                go_roundw
                case rel => exact ⟨y + 1, _, by omega, by go_num, HY'.out, rfl⟩
                case measure => simp [intOf]; omega
          · have t1 : ((m : Int) != (W : Int)) = true := by simp; omega
            have F := Lib.hid (NO.out (rowN_len (by rw [hm]; exact hrs)))
            clear hrs hm dy
            go_wp2_with fail
            go_quiet (fail)
            go_wp2_with fail
            go_ret
            exact ⟨ret_bool F.out.symm, jd + nq, World.drewN_drewN _ _ _⟩
        · obtain rfl : y = n := by omega
          obtain ⟨hnL, eW, hc, hr⟩ := R.out
          have Y : Hid (tabOk most rows = true) := tab_yes hsz.out (fun j hj => by rw [← eW]; exact HOK.out j hj (by omega))
          clear hnL eW hc hr
          go_wp2_with fail
          go_ret
          exact ⟨ret_bool Y.out.symm, _, rfl⟩

set_option maxHeartbeats 400000 in
theorem isGreyS_any (p : Nat) (A : Option Addr) (c : Nat) (rows : List (List Int)) (w : World) (h : GreyAt w p A c rows) (hn : rows.length ≤ 1000000000) (hr : ∀ i (h : i < rows.length), rows[i].length ≤ 1000000000) :
    Calls Try.prog 55 #[.pointer (some ⟨p, 0, none⟩)] w fun e w' => e = .returned (.bool (greyOk rows)) ∧ ∃ k, w' = w.drewN k := by
  have c0 := h.cell
  have T := Lib.hid (tableS_any A c rows 99 w h.rd hn hr)
  unfold greyOk
  clear h hn hr
  generalize rows.length = n at *
  generalize tabOk 99 rows = b at *
  go_enter Try.func55, Try.ntmps55
  go_wp2_with fail
  refine T.out.mono ?_
  rintro e w' ⟨rfl, k, rfl⟩
  go_wp2_with fail
  go_ret
  exact ⟨rfl, k, rfl⟩
end Go.Proofs.Ytkamkjbllmgifaa

namespace Go.Proofs.Ytkamkjbllmgifaa
open Go.RowKit

theorem enters_rowsOk1 : Enters 84 := enters_of Try.func84 (by kernel_rfl) (by kernel_rfl)
theorem enters_rowsOk11 : Enters 86 := enters_of Try.func86 (by kernel_rfl) (by kernel_rfl)
theorem rowsOk11_any (m : Nat) (v most : Int) (w : World) (hm : w.cell? ⟨m, 0, none⟩ = some (.int .i64 most)) :
    Calls Try.prog 86 #[.int .i64 v, .pointer (some ⟨m, 0, none⟩)] w fun e w' => e = .returned (.bool (!inB v 0 most)) ∧ w = w' := by
  have SV := Lib.hid (fun V => in_any v 0 most V)
  generalize inB v 0 most = b at *
  go_enter Try.func86, Try.ntmps86
  go_wp2_with (go_at_call 39; refine (SV.out _).mono ?_; rintro e w' ⟨rfl, rfl⟩)
  go_ret
  exact ⟨rfl, rfl⟩

theorem any_not {α : Type} (p : α → Bool) (l : List α) : ((List.range l.length).any fun i => (l[i]?.map fun x => !p x).getD false) = !l.all p := by
  rw [Bool.eq_iff_iff]
  simp only [List.any_eq_true, List.mem_range, Bool.not_eq_true', List.all_eq_false]
  constructor
  · rintro ⟨i, hi, h⟩
    rw [List.getElem?_eq_getElem hi] at h
    simp at h
    exact ⟨l[i], List.getElem_mem _, by simp [h]⟩
  · rintro ⟨x, hx, h⟩
    obtain ⟨i, hi, rfl⟩ := List.getElem_of_mem hx
    refine ⟨i, hi, ?_⟩
    rw [List.getElem?_eq_getElem hi]
    simpa using h

set_option maxRecDepth 100000 in
set_option maxHeartbeats 1000000 in
/-- The closure at one row. -/
theorem rowsOk1_any (pr pm : Nat) (g : Nat) (cR n : Nat) (A : Option Addr) (c W : Nat) (r : List Int) (most : Int) (w : World) (A0 : Option Addr) (c0 : Nat)
    (hpr : w.cell? ⟨pr, 0, none⟩ = some (.slice (some ⟨g, 0, none⟩) n cR)) (h0 : 0 < n) (hg0 : w.cell? ⟨g, 0, none⟩ = some (.slice A0 W c0)) (hpm : w.cell? ⟨pm, 0, none⟩ = some (.int .i64 most)) (hlt : pm < w.heap.size) (hA : Rd w A (ints r)) (hn : r.length ≤ 1000000000) :
    Calls Try.prog 84 #[.slice A r.length c, .pointer (some ⟨pr, 0, none⟩), .pointer (some ⟨pm, 0, none⟩)] w fun e w' => e = .returned (.bool (!rowN most W r)) ∧ Below w.heap.size w w' := by
  obtain ⟨m, hm⟩ : ∃ m, r.length = m := ⟨_, rfl⟩
  have i0 : (0 : Int) < (n : Int) := by omega
  by_cases hW : m = W
  · have t1 : ((m : Int) != (W : Int)) = false := by simp [hW]
    have CF := Lib.hid (containsFuncI_any A c m 86 #[.pointer (some ⟨pm, 0, none⟩)] (ints r) (fun i => ((r[i]?.map fun x => !inB x 0 most).getD false)) w hA (by simp [ints, hm]) (by omega) enters_rowsOk11
      (fun i hi wr hb => by
        have hi' : i < r.length := by simpa [ints] using hi
        have e1 : (ints r)[i] = .int .i64 r[i] := by simp [ints]
        have e2 : (r[i]?.map fun x => !inB x 0 most).getD false = !inB r[i] 0 most := by rw [List.getElem?_eq_getElem hi']; rfl
        rw [e1, e2]
        exact (rowsOk11_any pm r[i] most wr ((hb.cell (p := ⟨pm, 0, none⟩) hlt).trans hpm)).mono fun _ _ ⟨h1, h2⟩ => ⟨h1, by rw [h2]; exact Ext.refl _⟩))
    have E := Lib.hid (any_not (fun x => inB x 0 most) r)
    rw [hm] at E
    have F : Hid (rowN most W r = r.all fun x => inB x 0 most) := by simp [Hid, rowN, hm, hW]
    rw [hm]
    have hmf : ∀ (fn : Fn) (first cap : Array Value) (w : World), (Instr.makeFunc fn first cap).run Try.prog w = .ok (.func fn first cap) w := fun _ _ _ _ => rfl
    rw [E.out] at CF
    rw [F.out]
    clear E F hm hW hA hn
    generalize (r.all fun x => inB x 0 most) = b at *
    go_enter Try.func84, Try.ntmps84
    go_wp2_with fail
    refine CF.out.mono ?_
    rintro e w2 ⟨rfl, hb2⟩
    go_wp2_with fail
    go_ret
    exact ⟨rfl, hb2⟩
  · have t1 : ((m : Int) != (W : Int)) = true := by simp; omega
    have F : Hid (rowN most W r = false) := rowN_len (by rw [hm]; exact hW)
    rw [hm, F.out]
    clear F hm hW hA hn
    go_enter Try.func84, Try.ntmps84
    go_wp2_with fail
    go_ret
    exact ⟨rfl, Ext.refl _⟩

def rowOf (rows : List (List Int)) (i : Nat) : List Int := rows.getD i []
theorem rowOf_eq {rows : List (List Int)} {i : Nat} (h : i < rows.length) : rowOf rows i = rows[i] := by simp [rowOf, List.getD_eq_getElem?_getD, List.getElem?_eq_getElem h]

set_option maxRecDepth 100000 in
set_option maxHeartbeats 1000000 in
theorem rowsOk_any (A : Option Addr) (c : Nat) (rows : List (List Int)) (most : Int) (w : World) (h : MatRd w A rows) (hn : rows.length ≤ 1000000000) (hr : ∀ i (h : i < rows.length), rows[i].length ≤ 1000000000) :
    Calls Try.prog 50 #[.slice A rows.length c, .int .i64 most] w fun e w' => e = .returned (.bool (tabOk most rows)) ∧ Below w.heap.size w w' := by
  obtain ⟨n, hnL⟩ : ∃ n, rows.length = n := ⟨_, rfl⟩
  rw [hnL] at hn ⊢
  by_cases hn0 : n = 0
  · have F : Hid (tabOk most rows = false) := by simp [Hid, tabOk, tabSz, inB, hnL, hn0]
    have t0 : ((n : Int) == 0) = true := by simp [hn0]
    clear hnL hn0 h hr
    go_enter Try.func50, Try.ntmps50
    go_wp2_with fail
    go_quiet (fail)
    go_wp2_with fail
    go_ret
    exact ⟨ret_bool F.out.symm, Ext.drawN (Ext.more (Ext.more (Ext.refl _) _) _) _⟩
  · have t0 : ((n : Int) == 0) = false := by simp [hn0]
    obtain ⟨g, rfl, hg, hc⟩ := h (by omega)
    obtain ⟨A0, c0, k0, d0⟩ := hc 0 (by omega)
    have eW := tabW_head (rows := rows) (by omega)
    generalize rows[0] = r0 at *
    obtain ⟨W, hW⟩ : ∃ W, r0.length = W := ⟨_, rfl⟩
    rw [hW] at k0 eW
    have SZ := Lib.hid (fun V => sizeOk_any W n V)
    have esz : (inB (W : Int) 1 16 && inB (n : Int) 1 16) = tabSz rows := by simp [tabSz, eW, hnL]
    rw [esz] at SZ
    have n0 : (0 : Int) < (n : Int) := by omega
    have g1 : g ≠ w.heap.size := by omega
    have g2 : g ≠ w.heap.size + 1 := by omega
    cases hsz : tabSz rows
    · have F : Hid (tabOk most rows = false) := by simp [Hid, tabOk, hsz]
      rw [hsz] at SZ
      clear hsz hc hnL eW h hn0 esz d0 hr hW
      go_enter Try.func50, Try.ntmps50
      go_wp2_with fail
      go_quiet ((go_at_call 82; exact Calls.quiet_of_same ((SZ.out _).mono fun _ _ ⟨h, k⟩ => ⟨h, k.symm⟩)))
      go_wp2_with fail
      go_ret
      exact ⟨ret_bool F.out.symm, Ext.drawN (Ext.more (Ext.more (Ext.refl _) _) _) _⟩
    · rw [hsz] at SZ
      have W0 := Lib.hid (fun V (hb : Below w.heap.size w V) => h.ext hb)
      have CF := Lib.hid (fun (V : World) (hb : Below w.heap.size w V) (hz : w.heap.size + 1 < V.heap.size) (e1 : V.cell? ⟨w.heap.size, 0, none⟩ = some (.slice (some ⟨g, 0, none⟩) n c)) (e2 : V.cell? ⟨w.heap.size + 1, 0, none⟩ = some (.int .i64 most)) =>
        (show Calls Try.prog 83 #[.slice (some ⟨g, 0, none⟩) n c, .func (.func 84) #[] #[.pointer (some ⟨w.heap.size, 0, none⟩), .pointer (some ⟨w.heap.size + 1, 0, none⟩)]] V fun e w' => e = .returned (.bool (!tabOk most rows)) ∧ Below V.heap.size V w' from by
        obtain ⟨vs, hvs, hvl⟩ : ∃ vs : List Value, (∀ i (h : i < rows.length), ∃ Ai ci, vs[i]? = some (.slice Ai rows[i].length ci) ∧ w.cell? ⟨g, i, none⟩ = some (.slice Ai rows[i].length ci) ∧ Rd w Ai (ints rows[i])) ∧ vs.length = n := by
          refine ⟨(List.range n).map fun i => ((w.cell? ⟨g, i, none⟩).getD (.bool false)), fun i hi => ?_, by simp⟩
          obtain ⟨Ai, ci, k1, k2⟩ := hc i hi
          refine ⟨Ai, ci, ?_, k1, k2⟩
          rw [List.getElem?_map, List.getElem?_range (by omega)]
          simp [k1]
        have Rv : Rd V (some ⟨g, 0, none⟩) vs := by
          intro _
          refine ⟨g, rfl, Nat.lt_of_lt_of_le hg hb.size, fun i hi => ?_⟩
          obtain ⟨Ai, ci, k1, k2, _⟩ := hvs i (by omega)
          rw [List.getElem?_eq_getElem hi] at k1
          rw [(hb.cell (p := ⟨g, i, none⟩) hg).trans k2, Option.some.inj k1]
        refine (containsFuncM_any (some ⟨g, 0, none⟩) c n 84 _ vs (fun i => !rowN most W (rowOf rows i)) V Rv hvl hn enters_rowsOk1 ?_).mono ?_
        · intro i hi wr hb2
          have hi' : i < rows.length := by omega
          obtain ⟨Ai, ci, k1, k2, k3⟩ := hvs i hi'
          rw [List.getElem?_eq_getElem hi] at k1
          rw [Option.some.inj k1, rowOf_eq hi']
          have hb3 := Ext.then_ hb hb2
          exact rowsOk1_any w.heap.size (w.heap.size + 1) g c n Ai ci W rows[i] most wr A0 c0 ((hb2.cell (p := ⟨w.heap.size, 0, none⟩) (by show w.heap.size < V.heap.size; omega)).trans e1) (by omega) ((hb3.cell (p := ⟨g, 0, none⟩) hg).trans k0)
            ((hb2.cell (p := ⟨w.heap.size + 1, 0, none⟩) hz).trans e2) (by have := hb2.size; omega) (k3.ext hb3) (hr i hi')
        · rintro e w' ⟨rfl, hb2⟩
          refine ⟨ret_bool ?_, hb2⟩
          have e3 : tabOk most rows = rows.all (rowN most W) := by simp [tabOk, hsz, eW]
          rw [e3, ← any_not, hnL, Bool.eq_iff_iff]
          simp only [List.any_eq_true, List.mem_range]
          constructor
          · rintro ⟨i, hi, h⟩
            refine ⟨i, hi, ?_⟩
            rw [List.getElem?_eq_getElem (by omega)]
            rw [rowOf_eq (by omega)] at h
            simpa using h
          · rintro ⟨i, hi, h⟩
            refine ⟨i, hi, ?_⟩
            rw [List.getElem?_eq_getElem (by omega)] at h
            rw [rowOf_eq (by omega)]
            simpa using h))
      clear hsz hc hnL eW h hn0 esz d0 hr hW W0
      generalize tabOk most rows = b at *
      have hmf : ∀ (fn : Fn) (first cap : Array Value) (w : World), (Instr.makeFunc fn first cap).run Try.prog w = .ok (.func fn first cap) w := fun _ _ _ _ => rfl
      go_enter Try.func50, Try.ntmps50
      go_wp2_with fail
      go_quiet ((go_at_call 82; exact Calls.quiet_of_same ((SZ.out _).mono fun _ _ ⟨h, k⟩ => ⟨h, k.symm⟩)))
      go_wp2_with fail
      refine (CF.out _ (Ext.drawN (Ext.more (Ext.more (Ext.refl _) _) _) _) (by simp [World.drewN]) (by simp [go_sem]) (by simp [go_sem])).mono ?_
      rintro e w2 ⟨rfl, hb2⟩
      go_wp2_with fail
      go_ret
      exact ⟨rfl, Ext.then_ (Ext.drawN (Ext.more (Ext.more (Ext.refl _) _) _) _) hb2⟩
set_option maxHeartbeats 400000 in
theorem validGrey_any (A : Option Addr) (c : Nat) (rows : List (List Int)) (w : World) (h : MatRd w A rows) (hn : rows.length ≤ 1000000000) (hr : ∀ i (h : i < rows.length), rows[i].length ≤ 1000000000) :
    Calls Try.prog 38 #[.agg #[.slice A rows.length c]] w fun e w' => e = .returned (.bool (greyOk rows)) ∧ Below w.heap.size w w' := by
  have R := Lib.hid (fun V (hb : Below w.heap.size w V) => rowsOk_any A c rows 99 V (h.ext hb) hn hr)
  unfold greyOk
  clear h hn hr
  generalize rows.length = n at *
  generalize tabOk 99 rows = b at *
  go_enter Try.func38, Try.ntmps38
  go_wp2_with fail
  refine (R.out _ (Ext.more (Ext.refl _) _)).mono ?_
  rintro e w2 ⟨rfl, hb2⟩
  go_wp2_with fail
  go_ret
  exact ⟨rfl, Ext.then_ (Ext.more (Ext.refl _) _) hb2⟩
set_option maxHeartbeats 400000 in
theorem sizes_any (p : Nat) (A : Option Addr) (c : Nat) (rows : List (List Int)) (w : World) (h : GreyAt w p A c rows) (hn : 0 < rows.length) :
    Calls Try.prog 67 #[.pointer (some ⟨p, 0, none⟩)] w fun e w' => e = .returned (.tuple #[.int .i64 (tabW rows : Int), .int .i64 (rows.length : Int)]) ∧ ∃ k, w' = w.drewN k := by
  have c0 := h.cell
  obtain ⟨g, rfl, hg, hc⟩ := h.rd hn
  obtain ⟨A0, c1, k0, d0⟩ := hc 0 hn
  rw [tabW_head hn] at k0
  generalize tabW rows = W at *
  have i0 : (0 : Int) < (rows.length : Int) := by omega
  clear hc d0 h
  generalize rows.length = n at *
  go_enter Try.func67, Try.ntmps67
  go_wp2_with fail
  go_quiet (fail)
  go_wp2_with fail
  go_ret2
  exact ⟨rfl, _, rfl⟩
end Go.Proofs.Ytkamkjbllmgifaa
