/- Two lists of numbers compared: slices.Equal and the reference's own. SameValleys: two lists of lists compared, by the program and by the reference. How many sets of pixels there are up to a level, and up to each: what both sides return. Numbers that an input of the tenth part chooses. Whether a pixel is black, as a law asks. The law FnValleys, walked. -/
import Derived.Test.YtkamkjbllmgifaaEq
import Derived.Test.YtkamkjbllmgifaaVlX
import Derived.Test.YtkamkjbllmgifaaBlw
import Derived.Test.YtkamkjbllmgifaaShp
import Derived.Test.YtkamkjbllmgifaaBytes
import Derived.Test.YtkamkjbllmgifaaSIs
import Derived.Test.YtkamkjbllmgifaaVlQ
import Derived.Test.YtkamkjbllmgifaaB10G
namespace Go.Proofs.Ytkamkjbllmgifaa
open Go.RowKit

theorem ints_cell {w : World} {A : Option Addr} {L : List Int} (h : Rd w A (ints L)) {k : Nat} (hk : k < L.length) : ∃ g, A = some ⟨g, 0, none⟩ ∧ g < w.heap.size ∧ w.cell? ⟨g, k, none⟩ = some (.int .i64 (L.getD k 0)) := by
  obtain ⟨g, e, hg, hc⟩ := h (by simp [ints]; omega)
  have := hc k (by simpa [ints] using hk)
  exact ⟨g, e, hg, by rw [this]; simp [ints, List.getD_eq_getElem?_getD, hk]⟩
theorem eqL_no {L M : List Int} {k : Nat} (h : L.getD k 0 ≠ M.getD k 0) : decide (L = M) = false := by
  rw [decide_eq_false_iff_not]; rintro rfl; exact h rfl
theorem eqL_yes {L M : List Int} (hl : L.length = M.length) (h : ∀ k, k < L.length → L.getD k 0 = M.getD k 0) : decide (L = M) = true := by
  rw [decide_eq_true_iff]
  apply List.ext_getElem hl
  intro i h1 h2
  have := h i h1
  simpa [List.getD_eq_getElem?_getD, h1, h2] using this
set_option maxRecDepth 100000 in
set_option maxHeartbeats 1000000 in
theorem slicesEqual_any (A B : Option Addr) (ca cb n m : Nat) (L M : List Int) (w : World) (hA : Rd w A (ints L)) (hB : Rd w B (ints M)) (hl : L.length = n) (hm : M.length = m) (hn : n ≤ 1000000000) (hn2 : m ≤ 1000000000) :
    Calls Try.prog 92 #[.slice A n ca, .slice B m cb] w fun e w' => e = .returned (.bool (decide (L = M))) ∧ ∃ k, w' = w.drewN k := by
  by_cases hnm : n = m
  · subst hnm
    have t0 : ((n : Int) != (n : Int)) = false := by simp
    have NO := Lib.hid (fun k => @eqL_no L M k)
    have YES := Lib.hid (fun (h : ∀ k, k < n → L.getD k 0 = M.getD k 0) => eqL_yes (L := L) (M := M) (by omega) (by rw [hl]; exact h))
    have CA := Lib.hid (fun k (h : k < n) => ints_cell hA (k := k) (by omega))
    have CB := Lib.hid (fun k (h : k < n) => ints_cell hB (k := k) (by omega))
    clear hA hB hl hm
    generalize decide (L = M) = r at *
    go_enter Try.func92, Try.ntmps92
    go_wp2_with fail
    go_loopw [5, 13] (fun _ i wr => ∃ k j : Nat, k ≤ n ∧ i = .int .i64 k ∧ wr = w.drewN j ∧ Hid (∀ q, q < k → L.getD q 0 = M.getD q 0)) (fun _ i _ => n - (intOf i).toNat)
    case atStart => exact ⟨0, 0, Nat.zero_le _, rfl, rfl, fun q h => absurd h (Nat.not_lt_zero _)⟩
    case round =>
      obtain ⟨k, j, hk, rfl, rfl, hall⟩ := hrel
      by_cases hlt : k < n
      · obtain ⟨g, rfl, hg, c1⟩ := CA.out k hlt
        obtain ⟨g', rfl, hg', c2⟩ := CB.out k hlt
        have NK := Lib.hid (NO.out k)
        have SU := Lib.hid (fun (h : L.getD k 0 = M.getD k 0) q (hq : q < k + 1) => (show L.getD q 0 = M.getD q 0 from by
          rcases Nat.lt_succ_iff_lt_or_eq.1 hq with h1 | h1
          · exact hall q h1
          · rw [h1]; exact h))
        clear hall
        generalize L.getD k 0 = x at *
        generalize M.getD k 0 = y at *
        have i0 : (0 : Int) ≤ (k : Int) := by omega
        have i1 : (k : Int) < (n : Int) := by omega
        by_cases he : x = y
        · have S1 := Lib.hid (SU.out he)
          have t1 : (x != y) = false := by simp [he]
          clear he SU NK
          go_wp2_with fail
          go_quiet (fail)
          go_wp2_with fail
          go_roundw
          case rel => exact ⟨k + 1, j + nq, by omega, by go_num, rfl, S1.out⟩
          case measure => simp [intOf]; omega
        · have N1 := Lib.hid (NK.out he)
          have t1 : (x != y) = true := by simpa using he
          clear he SU NK
          go_wp2_with fail
          go_quiet (fail)
          go_wp2_with fail
          go_ret
          exact ⟨ret_bool N1.out.symm, j + nq, World.drewN_drewN _ _ _⟩
      · obtain rfl : k = n := by omega
        have Y1 := Lib.hid (YES.out hall)
        clear hall
        go_wp2_with fail
        go_ret
        exact ⟨ret_bool Y1.out.symm, j, rfl⟩
  · have t0 : ((n : Int) != (m : Int)) = true := by simp; omega
    have F : Hid (decide (L = M) = false) := by rw [Hid, decide_eq_false_iff_not]; rintro rfl; omega
    rw [F.out]
    clear hnm hl hm
    go_enter Try.func92, Try.ntmps92
    go_wp2_with fail
    go_ret
    exact ⟨rfl, 0, rfl⟩
set_option maxRecDepth 100000 in
set_option maxHeartbeats 1000000 in
theorem sameS_any (A B : Option Addr) (ca cb n m : Nat) (L M : List Int) (w : World) (hA : Rd w A (ints L)) (hB : Rd w B (ints M)) (hl : L.length = n) (hm : M.length = m) (hn : n ≤ 1000000000) (hn2 : m ≤ 1000000000) :
    Calls Try.prog 61 #[.slice A n ca, .slice B m cb] w fun e w' => e = .returned (.bool (decide (L = M))) ∧ ∃ k, w' = w.drewN k := by
  by_cases hnm : n = m
  · subst hnm
    have t0 : ((n : Int) != (n : Int)) = false := by simp
    have NO := Lib.hid (fun k => @eqL_no L M k)
    have YES := Lib.hid (fun (h : ∀ k, k < n → L.getD k 0 = M.getD k 0) => eqL_yes (L := L) (M := M) (by omega) (by rw [hl]; exact h))
    have CA := Lib.hid (fun k (h : k < n) => ints_cell hA (k := k) (by omega))
    have CB := Lib.hid (fun k (h : k < n) => ints_cell hB (k := k) (by omega))
    clear hA hB hl hm
    generalize decide (L = M) = r at *
    go_enter Try.func61, Try.ntmps61
    go_wp2_with fail
    go_loopw [5] (fun i wr => ∃ k j : Nat, k ≤ n ∧ i = .int .i64 k ∧ wr = w.drewN j ∧ Hid (∀ q, q < k → L.getD q 0 = M.getD q 0)) (fun i _ => n - (intOf i).toNat)
    case atStart => exact ⟨0, 0, Nat.zero_le _, rfl, rfl, fun q h => absurd h (Nat.not_lt_zero _)⟩
    case round =>
      obtain ⟨k, j, hk, rfl, rfl, hall⟩ := hrel
      by_cases hlt : k < n
      · obtain ⟨g, rfl, hg, c1⟩ := CA.out k hlt
        obtain ⟨g', rfl, hg', c2⟩ := CB.out k hlt
        have NK := Lib.hid (NO.out k)
        have SU := Lib.hid (fun (h : L.getD k 0 = M.getD k 0) q (hq : q < k + 1) => (show L.getD q 0 = M.getD q 0 from by
          rcases Nat.lt_succ_iff_lt_or_eq.1 hq with h1 | h1
          · exact hall q h1
          · rw [h1]; exact h))
        clear hall
        generalize L.getD k 0 = x at *
        generalize M.getD k 0 = y at *
        have i0 : (0 : Int) ≤ (k : Int) := by omega
        have i1 : (k : Int) < (n : Int) := by omega
        by_cases he : x = y
        · have S1 := Lib.hid (SU.out he)
          have t1 : (x != y) = false := by simp [he]
          clear he SU NK
          go_wp2_with fail
          go_quiet (fail)
          go_wp2_with fail
          go_roundw
          case rel => exact ⟨k + 1, j + nq, by omega, by go_num, rfl, S1.out⟩
          case measure => simp [intOf]; omega
        · have N1 := Lib.hid (NK.out he)
          have t1 : (x != y) = true := by simpa using he
          clear he SU NK
          go_wp2_with fail
          go_quiet (fail)
          go_wp2_with fail
          go_ret
          exact ⟨ret_bool N1.out.symm, j + nq, World.drewN_drewN _ _ _⟩
      · obtain rfl : k = n := by omega
        have Y1 := Lib.hid (YES.out hall)
        clear hall
        go_wp2_with fail
        go_ret
        exact ⟨ret_bool Y1.out.symm, j, rfl⟩
  · have t0 : ((n : Int) != (m : Int)) = true := by simp; omega
    have F : Hid (decide (L = M) = false) := by rw [Hid, decide_eq_false_iff_not]; rintro rfl; omega
    rw [F.out]
    clear hnm hl hm
    go_enter Try.func61, Try.ntmps61
    go_wp2_with fail
    go_ret
    exact ⟨rfl, 0, rfl⟩
end Go.Proofs.Ytkamkjbllmgifaa

namespace Go.Proofs.Ytkamkjbllmgifaa
open Go.RowKit

theorem mtG_no {R T : List (List Int)} {k : Nat} (h : R.getD k [] ≠ T.getD k []) : decide (R = T) = false := by
  rw [decide_eq_false_iff_not]; rintro rfl; exact h rfl
theorem mtG_yes {R T : List (List Int)} (hl : R.length = T.length) (h : ∀ k, k < R.length → R.getD k [] = T.getD k []) : decide (R = T) = true := by
  rw [decide_eq_true_iff]
  apply List.ext_getElem hl
  intro i h1 h2
  have := h i h1
  simpa [List.getD_eq_getElem?_getD, h1, h2] using this
theorem mtG_cell {w : World} {A : Option Addr} {R : List (List Int)} (h : MatRd w A R) {k : Nat} (hk : k < R.length) :
    ∃ g A1 c1, A = some ⟨g, 0, none⟩ ∧ g < w.heap.size ∧ w.cell? ⟨g, k, none⟩ = some (.slice A1 (R.getD k []).length c1) ∧ Rd w A1 (ints (R.getD k [])) := by
  obtain ⟨g, e, hg, hc⟩ := h (by omega)
  obtain ⟨A1, c1, h1, h2⟩ := hc k hk
  have e2 : R.getD k [] = R[k] := by simp [List.getD_eq_getElem?_getD, hk]
  rw [e2]
  exact ⟨g, A1, c1, e, hg, h1, h2⟩
set_option maxRecDepth 100000 in
set_option maxHeartbeats 1000000 in
theorem same1_any (A B : Option Addr) (ca cb : Nat) (L M : List Int) (w : World) (hA : Rd w A (ints L)) (hB : Rd w B (ints M)) (hn : L.length ≤ 1000000000) (hn2 : M.length ≤ 1000000000) :
    Calls Try.prog 91 #[.slice A L.length ca, .slice B M.length cb] w fun e w' => e = .returned (.bool (decide (L = M))) ∧ ∃ k, w' = w.drewN k := by
  have C := Lib.hid (slicesEqual_any A B ca cb _ _ L M w hA hB rfl rfl hn hn2)
  clear hA hB
  generalize decide (L = M) = r at *
  generalize L.length = n at *
  generalize M.length = m at *
  go_enter Try.func91, Try.ntmps91
  go_wp2_with fail
  refine C.out.mono ?_
  rintro e w2 ⟨rfl, hk⟩
  go_wp2_with fail
  go_ret
  exact ⟨rfl, hk⟩
set_option maxRecDepth 100000 in
set_option maxHeartbeats 1000000 in
theorem equalFunc_any (A B : Option Addr) (ca cb : Nat) (R T : List (List Int)) (w : World) (hA : MatRd w A R) (hB : MatRd w B T) (hn : R.length ≤ 1000000000) (hn2 : T.length ≤ 1000000000) (hr : ∀ i (h : i < R.length), R[i].length ≤ 1000000000) (ht : ∀ i (h : i < T.length), T[i].length ≤ 1000000000) :
    Calls Try.prog 90 #[.slice A R.length ca, .slice B T.length cb, .func (.func 91) #[] #[]] w fun e w' => e = .returned (.bool (decide (R = T))) ∧ ∃ k, w' = w.drewN k := by
  obtain ⟨n, hl⟩ : ∃ n, R.length = n := ⟨_, rfl⟩
  obtain ⟨m, hm⟩ : ∃ m, T.length = m := ⟨_, rfl⟩
  have HR : Hid (∀ k, k < n → (R.getD k []).length ≤ 1000000000) := fun k hk => by
    have : R.getD k [] = R[k]'(by omega) := by simp [List.getD_eq_getElem?_getD, hl, hk]
    rw [this]; exact hr k (by omega)
  have HT : Hid (∀ k, k < m → (T.getD k []).length ≤ 1000000000) := fun k hk => by
    have : T.getD k [] = T[k]'(by omega) := by simp [List.getD_eq_getElem?_getD, hm, hk]
    rw [this]; exact ht k (by omega)
  rw [hl] at hn ⊢
  rw [hm] at hn2 ⊢
  by_cases hnm : n = m
  · subst hnm
    have t0 : ((n : Int) != (n : Int)) = false := by simp
    have NO := Lib.hid (fun k => @mtG_no R T k)
    have YES := Lib.hid (fun (h : ∀ k, k < n → R.getD k [] = T.getD k []) => mtG_yes (R := R) (T := T) (by omega) (by rw [hl]; exact h))
    have CA := Lib.hid (fun j k (h : k < n) => mtG_cell (hA.drewN j) (k := k) (by omega))
    have CB := Lib.hid (fun j k (h : k < n) => mtG_cell (hB.drewN j) (k := k) (by omega))
    clear hA hB hl hm hr ht
    generalize decide (R = T) = r at *
    go_enter Try.func90, Try.ntmps90
    go_wp2_with fail
    go_loopw [7, 8, 9, 17] (fun _ _ _ i wr => ∃ k j : Nat, k ≤ n ∧ i = .int .i64 k ∧ wr = w.drewN j ∧ Hid (∀ q, q < k → R.getD q [] = T.getD q [])) (fun _ _ _ i _ => n - (intOf i).toNat)
    case atStart => exact ⟨0, 0, Nat.zero_le _, rfl, rfl, fun q h => absurd h (Nat.not_lt_zero _)⟩
    case round =>
      obtain ⟨k, j, hk, rfl, rfl, hall⟩ := hrel
      by_cases hlt : k < n
      · obtain ⟨g, A1, c1, rfl, hg, k1, r1⟩ := CA.out j k hlt
        obtain ⟨g', B1, d1, rfl, hg', k2, r2⟩ := CB.out j k hlt
        have C := Lib.hid (same1_any A1 B1 c1 d1 _ _ (w.drewN j) r1 r2 (HR.out k hlt) (HT.out k hlt))
        have NK := Lib.hid (NO.out k)
        have SU := Lib.hid (fun (h : R.getD k [] = T.getD k []) q (hq : q < k + 1) => (show R.getD q [] = T.getD q [] from by
          rcases Nat.lt_succ_iff_lt_or_eq.1 hq with h1 | h1
          · exact hall q h1
          · rw [h1]; exact h))
        clear hall r1 r2
        generalize R.getD k [] = x at *
        generalize T.getD k [] = y at *
        have i0 : (0 : Int) ≤ (k : Int) := by omega
        have i1 : (k : Int) < (n : Int) := by omega
        by_cases he : x = y
        · have S1 := Lib.hid (SU.out he)
          rw [decide_eq_true he] at C
          clear he SU NK
          go_wp2_with fail
          refine C.out.mono ?_
          rintro e w2 ⟨rfl, q, rfl⟩
          go_wp2_with fail
          go_roundw
          case rel => exact ⟨k + 1, j + q, by omega, by go_num, rfl, S1.out⟩
          case measure => simp [intOf]; omega
        · have N1 := Lib.hid (NK.out he)
          rw [decide_eq_false he] at C
          clear he SU NK
          go_wp2_with fail
          refine C.out.mono ?_
          rintro e w2 ⟨rfl, q, rfl⟩
          go_wp2_with fail
          go_ret
          exact ⟨ret_bool N1.out.symm, j + q, rfl⟩
      · obtain rfl : k = n := by omega
        have Y1 := Lib.hid (YES.out hall)
        clear hall
        go_wp2_with fail
        go_ret
        exact ⟨ret_bool Y1.out.symm, j, rfl⟩
  · have t0 : ((n : Int) != (m : Int)) = true := by simp; omega
    have F : Hid (decide (R = T) = false) := by rw [Hid, decide_eq_false_iff_not]; rintro rfl; omega
    rw [F.out]
    clear hnm hl hm hA hB hr ht HR HT
    go_enter Try.func90, Try.ntmps90
    go_wp2_with fail
    go_ret
    exact ⟨rfl, 0, rfl⟩
set_option maxRecDepth 100000 in
set_option maxHeartbeats 1000000 in
theorem sameLists_any (A B : Option Addr) (ca cb : Nat) (R T : List (List Int)) (w : World) (hA : MatRd w A R) (hB : MatRd w B T) (hn : R.length ≤ 1000000000) (hn2 : T.length ≤ 1000000000) (hr : ∀ i (h : i < R.length), R[i].length ≤ 1000000000) (ht : ∀ i (h : i < T.length), T[i].length ≤ 1000000000) :
    Calls Try.prog 53 #[.slice A R.length ca, .slice B T.length cb] w fun e w' => e = .returned (.bool (decide (R = T))) ∧ Below w.heap.size w w' := by
  have C := Lib.hid (equalFunc_any A B ca cb R T w hA hB hn hn2 hr ht)
  clear hA hB hr ht
  generalize decide (R = T) = r at *
  generalize R.length = n at *
  generalize T.length = m at *
  go_enter Try.func53, Try.ntmps53
  go_wp2_with fail
  refine C.out.mono ?_
  rintro e w2 ⟨rfl, k, rfl⟩
  go_wp2_with fail
  go_ret
  exact ⟨rfl, Ext.drawN (Ext.refl _) k⟩
/-- Two grey pictures have the same valleys. -/
def sameV (gr hr : List (List Int)) : Bool := greyOk gr && (greyOk hr && decide (lastR (vSt gr) (vSt gr).n = lastR (vSt hr) (vSt hr).n))
theorem lastR_small {gr : List (List Int)} (h : greyOk gr = true) : (lastR (vSt gr) (vSt gr).n).length ≤ 1000000000 ∧ ∀ i (h : i < (lastR (vSt gr) (vSt gr).n).length), (lastR (vSt gr) (vSt gr).n)[i].length ≤ 1000000000 := by
  refine ⟨Nat.le_trans (Nat.le_trans (lastR_len _ _) (vSt_n h)) (by decide), fun i hi => ?_⟩
  have := List.getElem_mem hi
  unfold lastR at this
  obtain ⟨v, _, e⟩ := List.mem_filterMap.1 this
  split at e
  · cases e
  · injection e with e
    have e2 : (lastR (vSt gr) (vSt gr).n)[i] = (List.filterMap (fun v => if (vSt gr).dies v == (vSt gr).born v then none else some [(vSt gr).born v, (((vSt gr).place v : Nat) : Int), (vSt gr).dies v]) (List.range (vSt gr).n))[i]'hi := rfl
    rw [e2, ← e]
    simp
set_option maxRecDepth 100000 in
set_option maxHeartbeats 4000000 in
theorem sameVal_any (A : Option Addr) (c : Nat) (gr : List (List Int)) (A2 : Option Addr) (c2 : Nat) (hr : List (List Int)) (w : World) (h : MatRd w A gr) (h2 : MatRd w A2 hr)
    (hn : gr.length ≤ 1000000000) (hs : ∀ i (h : i < gr.length), gr[i].length ≤ 1000000000) (hn2 : hr.length ≤ 1000000000) (hs2 : ∀ i (h : i < hr.length), hr[i].length ≤ 1000000000) :
    Calls Try.prog 22 #[.agg #[.slice A gr.length c], .agg #[.slice A2 hr.length c2]] w fun e w' => e = .returned (.bool (sameV gr hr)) ∧ Below w.heap.size w w' := by
  obtain ⟨wB, hwB⟩ : ∃ wB, (w.alloc (.cells #[.slice A gr.length c] 26)).alloc (.cells #[.slice A2 hr.length c2] 26) = wB := ⟨_, rfl⟩
  have B1 : Below w.heap.size w wB := by rw [← hwB]; exact Ext.more (Ext.more (Ext.refl _) _) _
  have G1 : GreyAt wB w.heap.size A c gr := by rw [← hwB]; exact (GreyAt.boxed h _).ext (Ext.more (Ext.refl _) _)
  have G2 : GreyAt wB (w.heap.size + 1) A2 c2 hr := by
    rw [← hwB]
    have := GreyAt.boxed (c := c2) (h2.ext (Ext.more (Ext.refl w) (.cells #[.slice A gr.length c] 26))) 26
    rwa [World.size_alloc] at this
  have VG := Lib.hid (fun V (hV : Below w.heap.size w V) => validGrey_any A c gr V (h.ext hV) hn hs)
  have VH := Lib.hid (fun V (hV : Below w.heap.size w V) => validGrey_any A2 c2 hr V (h2.ext hV) hn2 hs2)
  have GX := Lib.hid (fun V (hb : Below wB.heap.size wB V) => G1.ext hb)
  have GY := Lib.hid (fun V (hb : Below wB.heap.size wB V) => G2.ext hb)
  have c0 := G1.cell
  have l0 := G1.lt
  cases hg : greyOk gr
  · have F2 : Hid (sameV gr hr = false) := by rw [Hid, sameV, hg]; rfl
    rw [hg] at VG
    rw [F2.out]
    clear hg hn hs h h2 hn2 hs2 G1 G2 VH GX GY
    generalize gr.length = n1 at *
    generalize hr.length = n2 at *
    go_enter Try.func22, Try.ntmps22
    go_upto_region 1 with fail
    try simp only [hwB]
    go_wp2_with fail
    refine (VG.out _ B1).mono ?_
    rintro e w2 ⟨rfl, hb⟩
    go_wp2_with fail
    go_ret
    exact ⟨rfl, Ext.then_ B1 hb⟩
  · rw [hg] at VG
    cases hh : greyOk hr
    · have F2 : Hid (sameV gr hr = false) := by rw [Hid, sameV, hg, hh]; rfl
      rw [hh] at VH
      rw [F2.out]
      clear hg hh hn hs h h2 hn2 hs2 G1 G2
      generalize gr.length = n1 at *
      go_enter Try.func22, Try.ntmps22
      go_upto_region 1 with fail
      try simp only [hwB]
      go_wp2_with fail
      refine (VG.out _ B1).mono ?_
      rintro e w2 ⟨rfl, hb⟩
      have c1 := (GY.out _ hb).cell
      have B2 := Ext.then_ B1 hb
      clear c0 l0
      go_wp2_with fail
      refine (VH.out _ B2).mono ?_
      rintro e w3 ⟨rfl, hb3⟩
      go_wp2_with fail
      go_ret
      exact ⟨rfl, Ext.then_ B2 hb3⟩
    · have F2 : Hid (sameV gr hr = decide (lastR (vSt gr) (vSt gr).n = lastR (vSt hr) (vSt hr).n)) := by rw [Hid, sameV, hg, hh]; rfl
      rw [hh] at VH
      have LA := Lib.hid (fun V (hV : GreyAt V w.heap.size A c gr) => lasting_any w.heap.size A c gr V hV hg)
      have LB := Lib.hid (fun V (hV : GreyAt V (w.heap.size + 1) A2 c2 hr) => lasting_any (w.heap.size + 1) A2 c2 hr V hV hh)
      have s1 := lastR_small hg
      have s2 := lastR_small hh
      rw [F2.out]
      clear hg hh hn hs h h2 hn2 hs2 G1 G2
      generalize lastR (vSt gr) (vSt gr).n = R at *
      generalize lastR (vSt hr) (vSt hr).n = T at *
      have SL := Lib.hid (fun V (A1 B1 : Option Addr) (ca cb : Nat) (x1 : MatRd V A1 R) (x2 : MatRd V B1 T) => sameLists_any A1 B1 ca cb R T V x1 x2 s1.1 s2.1 s1.2 s2.2)
      clear s1 s2
      generalize decide (R = T) = r at *
      generalize hR : R.length = n3 at *
      generalize hT : T.length = n4 at *
      clear hR hT F2
      generalize gr.length = n1 at *
      go_enter Try.func22, Try.ntmps22
      go_upto_region 1 with fail
      try simp only [hwB]
      go_wp2_with fail
      refine (VG.out _ B1).mono ?_
      rintro e w2 ⟨rfl, hb⟩
      have c1 := (GY.out _ hb).cell
      have B2 := Ext.then_ B1 hb
      clear c0 l0
      go_wp2_with fail
      refine (VH.out _ B2).mono ?_
      rintro e w3 ⟨rfl, hb3⟩
      have bB := Ext.then_ hb hb3
      have B3 := Ext.then_ B2 hb3
      go_wp2_with fail
      refine (LA.out _ (GX.out _ bB)).mono ?_
      rintro e w4 ⟨A4, c4, vs4, rfl, M4, hb4⟩
      have bB4 := Ext.then_ bB hb4
      have B4 := Ext.then_ B3 hb4
      go_wp2_with fail
      refine (LB.out _ (GY.out _ bB4)).mono ?_
      rintro e w5 ⟨A5, c5, vs5, rfl, M5, hb5⟩
      have B5 := Ext.then_ B4 hb5
      go_wp2_with fail
      refine (SL.out _ _ _ _ _ (M4.ext hb5).rd M5.rd).mono ?_
      rintro e w6 ⟨rfl, hb6⟩
      go_wp2_with fail
      go_ret
      exact ⟨rfl, Ext.then_ B5 hb6⟩
set_option maxRecDepth 100000 in
set_option maxHeartbeats 4000000 in
theorem sameValS_any (A : Option Addr) (c : Nat) (gr : List (List Int)) (A2 : Option Addr) (c2 : Nat) (hr : List (List Int)) (w : World) (h : MatRd w A gr) (h2 : MatRd w A2 hr)
    (hn : gr.length ≤ 1000000000) (hs : ∀ i (h : i < gr.length), gr[i].length ≤ 1000000000) (hn2 : hr.length ≤ 1000000000) (hs2 : ∀ i (h : i < hr.length), hr[i].length ≤ 1000000000) :
    Calls Try.prog 32 #[.agg #[.slice A gr.length c], .agg #[.slice A2 hr.length c2]] w fun e w' => e = .returned (.bool (sameV gr hr)) ∧ Below w.heap.size w w' := by
  obtain ⟨wB, hwB⟩ : ∃ wB, (w.alloc (.cells #[.slice A gr.length c] 26)).alloc (.cells #[.slice A2 hr.length c2] 26) = wB := ⟨_, rfl⟩
  have B1 : Below w.heap.size w wB := by rw [← hwB]; exact Ext.more (Ext.more (Ext.refl _) _) _
  have G1 : GreyAt wB w.heap.size A c gr := by rw [← hwB]; exact (GreyAt.boxed h _).ext (Ext.more (Ext.refl _) _)
  have G2 : GreyAt wB (w.heap.size + 1) A2 c2 hr := by
    rw [← hwB]
    have := GreyAt.boxed (c := c2) (h2.ext (Ext.more (Ext.refl w) (.cells #[.slice A gr.length c] 26))) 26
    rwa [World.size_alloc] at this
  have VG := Lib.hid (isGreyS_any w.heap.size A c gr wB G1 hn hs)
  have VH := Lib.hid (fun k => isGreyS_any (w.heap.size + 1) A2 c2 hr (wB.drewN k) (G2.drewN k) hn2 hs2)
  have GX := Lib.hid (fun V (hb : Below wB.heap.size wB V) => G1.ext hb)
  have GY := Lib.hid (fun V (hb : Below wB.heap.size wB V) => G2.ext hb)
  cases hg : greyOk gr
  · have F2 : Hid (sameV gr hr = false) := by rw [Hid, sameV, hg]; rfl
    rw [hg] at VG
    rw [F2.out]
    clear hg hn hs h h2 hn2 hs2 G1 G2 VH GX GY
    generalize gr.length = n1 at *
    generalize hr.length = n2 at *
    go_enter Try.func32, Try.ntmps32
    go_upto_region 1 with fail
    try simp only [hwB]
    go_wp2_with fail
    refine VG.out.mono ?_
    rintro e w2 ⟨rfl, k, rfl⟩
    go_wp2_with fail
    go_ret
    exact ⟨rfl, Ext.drawN B1 k⟩
  · rw [hg] at VG
    cases hh : greyOk hr
    · have F2 : Hid (sameV gr hr = false) := by rw [Hid, sameV, hg, hh]; rfl
      rw [hh] at VH
      rw [F2.out]
      clear hg hh hn hs h h2 hn2 hs2 G1 G2
      generalize gr.length = n1 at *
      generalize hr.length = n2 at *
      go_enter Try.func32, Try.ntmps32
      go_upto_region 1 with fail
      try simp only [hwB]
      go_wp2_with fail
      refine VG.out.mono ?_
      rintro e w2 ⟨rfl, k, rfl⟩
      go_wp2_with fail
      refine (VH.out k).mono ?_
      rintro e w3 ⟨rfl, k3, rfl⟩
      go_wp2_with fail
      go_ret
      exact ⟨rfl, Ext.drawN B1 (k + k3)⟩
    · have F2 : Hid (sameV gr hr = decide (lastR (vSt gr) (vSt gr).n = lastR (vSt hr) (vSt hr).n)) := by rw [Hid, sameV, hg, hh]; rfl
      rw [hh] at VH
      have LA := Lib.hid (fun V (hV : GreyAt V w.heap.size A c gr) => pairs_any w.heap.size A c gr V hV hg)
      have LB := Lib.hid (fun V (hV : GreyAt V (w.heap.size + 1) A2 c2 hr) => pairs_any (w.heap.size + 1) A2 c2 hr V hV hh)
      have s1 := lastR_small hg
      have s2 := lastR_small hh
      rw [F2.out]
      clear hg hh hn hs h h2 hn2 hs2 G1 G2 F2
      generalize lastR (vSt gr) (vSt gr).n = R at *
      generalize lastR (vSt hr) (vSt hr).n = T at *
      obtain ⟨n, hl⟩ : ∃ n, R.length = n := ⟨_, rfl⟩
      obtain ⟨m, hm⟩ : ∃ m, T.length = m := ⟨_, rfl⟩
      have HR : Hid (∀ k, k < n → (R.getD k []).length ≤ 1000000000) := fun k hk => by
        have : R.getD k [] = R[k]'(by omega) := by simp [List.getD_eq_getElem?_getD, hl, hk]
        rw [this]; exact s1.2 k (by omega)
      have HT : Hid (∀ k, k < m → (T.getD k []).length ≤ 1000000000) := fun k hk => by
        have : T.getD k [] = T[k]'(by omega) := by simp [List.getD_eq_getElem?_getD, hm, hk]
        rw [this]; exact s2.2 k (by omega)
      have nB : n ≤ 1000000000 := by rw [← hl]; exact s1.1
      have mB : m ≤ 1000000000 := by rw [← hm]; exact s2.1
      have CA := Lib.hid (fun V A (x : MatRd V A R) k (h : k < n) => mtG_cell x (k := k) (by omega))
      have CB := Lib.hid (fun V A (x : MatRd V A T) k (h : k < m) => mtG_cell x (k := k) (by omega))
      have NE := Lib.hid (fun (e : n ≠ m) => show decide (R = T) = false from by rw [decide_eq_false_iff_not]; rintro rfl; exact e (hl.symm.trans hm))
      have NO := Lib.hid (fun k => @mtG_no R T k)
      have YES := Lib.hid (fun (e : n = m) (h : ∀ k, k < n → R.getD k [] = T.getD k []) => mtG_yes (R := R) (T := T) (by omega) (by rw [hl]; exact h))
      rw [hl] at LA
      rw [hm] at LB
      clear s1 s2 hl hm
      generalize decide (R = T) = r at *
      generalize gr.length = n1 at *
      generalize hr.length = n2 at *
      go_enter Try.func32, Try.ntmps32
      go_upto_region 1 with fail
      try simp only [hwB]
      go_wp2_with fail
      refine VG.out.mono ?_
      rintro e w2 ⟨rfl, k, rfl⟩
      go_wp2_with fail
      refine (VH.out k).mono ?_
      rintro e w3 ⟨rfl, k3, rfl⟩
      have bB : Below wB.heap.size wB (wB.drewN (k + k3)) := Ext.drawN (Ext.refl wB) (k + k3)
      have B3 := Ext.drawN B1 (k + k3)
      go_wp2_with fail
      refine (LA.out _ (GX.out _ bB)).mono ?_
      rintro e w4 ⟨A4, c4, vs4, rfl, M4, hb4⟩
      have bB4 := Ext.then_ bB hb4
      have B4 := Ext.then_ B3 hb4
      go_wp2_with fail
      refine (LB.out _ (GY.out _ bB4)).mono ?_
      rintro e w5 ⟨A5, c5, vs5, rfl, M5, hb5⟩
      have B5 := Lib.hid (Ext.then_ B4 hb5)
      have R4 := Lib.hid (M4.ext hb5).rd
      have R5 := Lib.hid M5.rd
      clear B4 B3 bB bB4 hb5 hb4 M4 M5 VG VH LA LB GX GY B1
      by_cases hnm : n = m
      · subst hnm
        have t0 : ((n : Int) != (n : Int)) = false := by simp
        have Y2 := Lib.hid (YES.out rfl)
        go_wp2_with fail
        go_loopw [7, 23] (fun _ i wr => ∃ k j : Nat, k ≤ n ∧ i = .int .i64 k ∧ wr = w5.drewN j ∧ Hid (∀ q, q < k → R.getD q [] = T.getD q [])) (fun _ i _ => n - (intOf i).toNat)
        case atStart => exact ⟨0, 0, Nat.zero_le _, rfl, rfl, fun q h => absurd h (Nat.not_lt_zero _)⟩
        case round =>
          obtain ⟨k, j, hk, rfl, hwr, hall⟩ := hrel
          by_cases hlt : k < n
          · have MA : MatRd wr _ R := hwr ▸ R4.out.drewN j
            have MB : MatRd wr _ T := hwr ▸ R5.out.drewN j
            have HW := Lib.hid hwr
            clear hwr
            obtain ⟨g, A1, c1, rfl, hg, k1, r1⟩ := CA.out wr _ MA k hlt
            obtain ⟨g', B1, d1, rfl, hg', k2, r2⟩ := CB.out wr _ MB k hlt
            have C := Lib.hid (fun j' => sameS_any A1 B1 c1 d1 _ _ (R.getD k []) (T.getD k []) (wr.drewN j') (r1.drewN j') (r2.drewN j') rfl rfl (HR.out k hlt) (HT.out k hlt))
            clear MA MB
            have NK := Lib.hid (NO.out k)
            have SU := Lib.hid (fun (h : R.getD k [] = T.getD k []) q (hq : q < k + 1) => (show R.getD q [] = T.getD q [] from by
              rcases Nat.lt_succ_iff_lt_or_eq.1 hq with h1 | h1
              · exact hall q h1
              · rw [h1]; exact h))
            clear hall r1 r2
            generalize R.getD k [] = x at *
            generalize T.getD k [] = y at *
            have i0 : (0 : Int) ≤ (k : Int) := by omega
            have i1 : (k : Int) < (n : Int) := by omega
            by_cases he : x = y
            · have S1 := Lib.hid (SU.out he)
              rw [decide_eq_true he] at C
              clear he SU NK
              go_wp2_with fail
              go_quiet ((go_at_call 61; exact Calls.quiet_of (C.out _)))
              go_wp2_with fail
              go_roundw
              case rel => exact ⟨k + 1, j + nq, by omega, by go_num, by rw [HW.out, World.drewN_drewN], S1.out⟩
              case measure => simp [intOf]; omega
            · have N1 := Lib.hid (NK.out he)
              rw [decide_eq_false he] at C
              clear he SU NK
              go_wp2_with fail
              go_quiet ((go_at_call 61; exact Calls.quiet_of (C.out _)))
              go_wp2_with fail
              go_ret
              exact ⟨ret_bool N1.out.symm, by rw [HW.out]; exact Ext.drawN (Ext.drawN B5.out j) nq⟩
          · obtain rfl : k = n := by omega
            have Y1 := Lib.hid (Y2.out hall)
            clear hall
            go_wp2_with fail
            go_ret
            exact ⟨ret_bool Y1.out.symm, by first | exact Ext.drawN B5.out j | (rw [hwr]; exact Ext.drawN B5.out j)⟩
      · have t0 : ((n : Int) != (m : Int)) = true := by simp; omega
        have N1 := Lib.hid (NE.out hnm)
        clear hnm
        go_wp2_with fail
        go_ret
        exact ⟨ret_bool N1.out.symm, B5.out⟩
end Go.Proofs.Ytkamkjbllmgifaa

namespace Go.Proofs.Ytkamkjbllmgifaa
open Go.RowKit

def cbOk (rows : List (List Int)) (lvl : Int) : Bool := greyOk rows && inB lvl 0 99
def cbV (rows : List (List Int)) (lvl : Int) : Int := if cbOk rows lvl then (belowN rows lvl : Int) else 0

set_option maxRecDepth 100000 in
set_option maxHeartbeats 1000000 in
theorem countBelow_any (A : Option Addr) (c : Nat) (rows : List (List Int)) (lvl : Int) (w : World) (h : MatRd w A rows) (hn : rows.length ≤ 1000000000) (hr : ∀ i (h : i < rows.length), rows[i].length ≤ 1000000000) :
    Calls Try.prog 23 #[.agg #[.slice A rows.length c], .int .i64 lvl] w fun e w' => e = .returned (.tuple #[.int .i64 (cbV rows lvl), .bool (cbOk rows lvl)]) ∧ Below w.heap.size w w' := by
  have B1 : Below w.heap.size w (w.alloc (.cells #[.slice A rows.length c] 26)) := Ext.more (Ext.refl _) _
  have G1 := GreyAt.boxed (c := c) h 26
  have c0 := G1.cell
  have VG := Lib.hid (validGrey_any A c rows _ (h.ext B1) hn hr)
  have BL := Lib.hid (fun V (hV : Below (w.alloc (.cells #[.slice A rows.length c] 26)).heap.size (w.alloc (.cells #[.slice A rows.length c] 26)) V) (hok : greyOk rows = true) => below_any w.heap.size A c rows lvl V (G1.ext hV) hok)
  have IN := Lib.hid (fun V => in_any lvl 0 99 V)
  clear h hn hr G1
  cases hg : greyOk rows
  · have F1 : Hid (cbOk rows lvl = false) := by rw [Hid, cbOk, hg]; rfl
    have F2 : Hid (cbV rows lvl = 0) := by rw [Hid, cbV, F1.out]; rfl
    rw [hg] at VG
    rw [F1.out, F2.out]
    clear hg BL
    generalize rows.length = n at *
    go_enter Try.func23, Try.ntmps23
    go_wp2_with fail
    refine VG.out.mono ?_
    rintro e w2 ⟨rfl, hb⟩
    have B2 := Ext.then_ B1 hb
    go_wp2_with fail
    go_ret2
    exact ⟨rfl, B2⟩
  have BL2 := Lib.hid (fun V hV => BL.out V hV hg)
  rw [hg] at VG
  cases hl : inB lvl 0 99
  · have F1 : Hid (cbOk rows lvl = false) := by rw [Hid, cbOk, hg, hl]; rfl
    have F2 : Hid (cbV rows lvl = 0) := by rw [Hid, cbV, F1.out]; rfl
    rw [hl] at IN
    rw [F1.out, F2.out]
    clear hg BL BL2 hl
    generalize rows.length = n at *
    go_enter Try.func23, Try.ntmps23
    go_wp2_with fail
    refine VG.out.mono ?_
    rintro e w2 ⟨rfl, hb⟩
    have B2 := Ext.then_ B1 hb
    go_wp2_with (go_at_call 39; refine (IN.out _).mono ?_; rintro e w' ⟨rfl, rfl⟩)
    go_ret2
    exact ⟨rfl, B2⟩
  · have F1 : Hid (cbOk rows lvl = true) := by rw [Hid, cbOk, hg, hl]; rfl
    have F2 : Hid (cbV rows lvl = (belowN rows lvl : Int)) := by rw [Hid, cbV, F1.out]; rfl
    rw [hl] at IN
    rw [F1.out, F2.out]
    clear hg BL hl F1 F2
    generalize belowN rows lvl = bn at *
    generalize rows.length = n at *
    go_enter Try.func23, Try.ntmps23
    go_wp2_with fail
    refine VG.out.mono ?_
    rintro e w2 ⟨rfl, hb⟩
    have B2 := Ext.then_ B1 hb
    go_wp2_with (go_at_call 39; refine (IN.out _).mono ?_; rintro e w' ⟨rfl, rfl⟩)
    refine (BL2.out _ hb).mono ?_
    rintro e w3 ⟨rfl, hb3⟩
    have B3 := Ext.then_ B2 hb3
    go_wp2_with fail
    go_ret2
    exact ⟨rfl, B3⟩

/-- The numbers up to each of the first k levels. -/
def lcL (rows : List (List Int)) (k : Nat) : List Int := (List.range k).map fun i : Nat => (belowN rows (i : Int) : Int)
theorem lcL_succ (rows : List (List Int)) (k : Nat) : lcL rows (k + 1) = lcL rows k ++ [(belowN rows (k : Int) : Int)] := by simp [lcL, List.range_succ]
theorem lcL_len (rows : List (List Int)) (k : Nat) : (lcL rows k).length = k := by simp [lcL]
def lcV (rows : List (List Int)) : List Int := if greyOk rows then lcL rows 100 else []
theorem lcV_len (rows : List (List Int)) : (lcV rows).length ≤ 100 := by
  unfold lcV; split
  · rw [lcL_len]; omega
  · simp
/-- A call has returned a list of numbers of memory of its own, and whether it is right. -/
def LcRes (w : World) (R : List Int) (ok : Bool) (e : Ending) (w' : World) : Prop :=
  ∃ A c, e = .returned (.tuple #[.slice A R.length c, .bool ok]) ∧ w'.ownsRow w.heap.size 2 1 (.slice A R.length c) R.length (ints R) ∧ Below w.heap.size w w'
set_option maxRecDepth 100000 in
set_option maxHeartbeats 1000000 in
theorem levelCounts_any (A : Option Addr) (c : Nat) (rows : List (List Int)) (w : World) (h : MatRd w A rows) (hn : rows.length ≤ 1000000000) (hr : ∀ i (h : i < rows.length), rows[i].length ≤ 1000000000) :
    Calls Try.prog 21 #[.agg #[.slice A rows.length c]] w (LcRes w (lcV rows) (greyOk rows)) := by
  have B1 : Below w.heap.size w (w.alloc (.cells #[.slice A rows.length c] 26)) := Ext.more (Ext.refl _) _
  have G1 := GreyAt.boxed (c := c) h 26
  have c0 := G1.cell
  have VG := Lib.hid (validGrey_any A c rows _ (h.ext B1) hn hr)
  cases hg : greyOk rows
  · have F : Hid (lcV rows = []) := by rw [Hid, lcV, hg]; rfl
    rw [hg] at VG
    rw [F.out]
    have NIL : Hid (∀ V : World, V.ownsRow w.heap.size 2 1 (.slice none 0 0) 0 (ints [])) := fun V => ⟨rfl, .inl ⟨rfl, rfl⟩⟩
    clear hg h hn hr G1
    generalize rows.length = n at *
    go_enter Try.func21, Try.ntmps21
    go_wp2_with fail
    refine VG.out.mono ?_
    rintro e w2 ⟨rfl, hb⟩
    have B2 := Ext.then_ B1 hb
    go_wp2_with fail
    go_ret2
    exact ⟨none, 0, rfl, NIL.out _, B2⟩
  · have F : Hid (lcV rows = lcL rows 100) := by rw [Hid, lcV, hg]; rfl
    rw [hg] at VG
    have BL := Lib.hid (fun (lvl : Nat) V (hV : Below (w.alloc (.cells #[.slice A rows.length c] 26)).heap.size (w.alloc (.cells #[.slice A rows.length c] 26)) V) => below_any w.heap.size A c rows (lvl : Int) V (G1.ext hV) hg)
    have LS := Lib.hid (lcL_succ rows)
    have LL := Lib.hid (lcL_len rows 100)
    have L0 : Hid (lcL rows 0 = []) := rfl
    rw [F.out]
    clear hg h hn hr G1 F
    generalize rows.length = n at *
    go_enter Try.func21, Try.ntmps21
    go_wp2_with fail
    refine VG.out.mono ?_
    rintro e w2 ⟨rfl, hb⟩
    have hrow0 := World.ownsRow_lit (e := 2) (size := 1) w2 #[] 0 (Nat.le_refl _) (by decide) rfl
    have hz : w.heap.size + 1 ≤ w2.heap.size := by have := hb.size; simpa using this
    have hb2 := Ext.more hb (.cells #[] 2)
    have LZ : Hid (w2.heap.size ≤ (w2.alloc (.cells #[] 2)).heap.size) := by simp [Hid]
    go_wp2_with fail
    generalize w2.alloc (.cells #[] 2) = w3 at *
    go_loopw [4, 5, 10] (fun v _ i wr => ∃ k gb cb : Nat, k ≤ 100 ∧ i = .int .i64 k ∧ v = .slice (some ⟨gb, 0, none⟩) k cb ∧ wr.ownsRow w2.heap.size 2 1 (.slice (some ⟨gb, 0, none⟩) k cb) k (ints (lcL rows k)) ∧ Below (w.alloc (.cells #[.slice A n c] 26)).heap.size (w.alloc (.cells #[.slice A n c] 26)) wr ∧ w2.heap.size ≤ wr.heap.size) (fun _ _ i _ => 100 - (intOf i).toNat)
    case atStart => exact ⟨0, _, 0, Nat.zero_le _, rfl, rfl, by rw [L0.out]; exact hrow0, hb2, LZ.out⟩
    case round =>
      obtain ⟨k, gb, cb, hk, rfl, rfl, hown, hbr, hsz⟩ := hrel
      clear hrow0 hb2
      by_cases hlt : k < 100
      · have B := Lib.hid (BL.out k wr hbr)
        have S := Lib.hid (LS.out k)
        have i0 : (k : Int) < 100 := by omega
        generalize belowN rows (k : Int) = bn at *
        generalize lcL rows k = lk at *
        go_wp2_with fail
        refine B.out.mono ?_
        rintro e w5 ⟨rfl, hb5⟩
        have O5 := own_ext hb5 hown
        have z5 := hb5.size
        have HB5 := Lib.hid (Ext.then_ hbr hb5)
        go_wp2_with (at_builtin; refine wpList_app intT (by rfl) _ _ (by rfl) w2.heap.size (.slice (some ⟨gb, 0, none⟩) k cb) k (ints lk) (by rfl) (O5.alloc _) w5.heap.size #[.int .i64 bn] (by rfl) (heap_alloc_new _ _) rfl (by simp [Value.oneCell']) (by omega) (by simp; omega) ?_; intro g3 cap3 w6 hown6 hgrow6 hat6 hlt6)
        have O6 : Hid (w6.ownsRow w2.heap.size 2 1 (.slice (some ⟨g3, 0, none⟩) (k + 1) cap3) (k + 1) (ints (lcL rows (k + 1)))) := by
          rw [Hid, S.out]; simpa [ints] using hown6
        have B6 : Hid (Below (w.alloc (.cells #[.slice A n c] 26)).heap.size (w.alloc (.cells #[.slice A n c] 26)) w6) := (HB5.out.alloc HB5.out.size _).grown hgrow6 (by have := HB5.out.size; simp at this ⊢; omega) (fun z hz => by have := (O5.lt z hz).1; simp; omega)
        have Z6 : w2.heap.size ≤ w6.heap.size := by have := hgrow6.size; simp at this; omega
        clear hown6 hgrow6 hat6 O5 hown hbr
        go_roundw
        case rel => exact ⟨k + 1, g3, cap3, by omega, by go_num, rfl, O6.out, B6.out, Z6⟩
        case measure => simp [intOf]; omega
      · obtain rfl : k = 100 := by omega
        have OW := Lib.hid hown
        have HB := Lib.hid (Ext.then_ B1 hbr)
        clear hown hbr
        go_wp2_with fail
        go_ret2
        exact ⟨some ⟨gb, 0, none⟩, cb, by rw [LL.out]; rfl, by rw [LL.out]; exact own_base OW.out (by omega), HB.out⟩

theorem LcRes.o {w w' : World} {R : List Int} {ok : Bool} {e : Ending} (h : LcRes w R ok e w') : ∃ A c, e = .returned (.tuple #[.slice A R.length c, .bool ok]) ∧ IntsO w' w.heap.size w'.heap.size A c R ∧ Below w.heap.size w w' := by
  obtain ⟨A, c, h1, h2, h3⟩ := h
  refine ⟨A, c, h1, ⟨h2, fun a ha => ?_⟩, h3⟩
  subst ha
  rcases h2.2 with ⟨hv, _⟩ | ⟨g, cap, cur, hv, _⟩
  · cases hv
  · simp only [Value.slice.injEq, Option.some.injEq] at hv
    obtain ⟨rfl, _⟩ := hv
    exact (h2.lt g rfl).2
end Go.Proofs.Ytkamkjbllmgifaa

namespace Go.Proofs.Ytkamkjbllmgifaa
open Go.RowKit

set_option maxHeartbeats 400000 in
theorem b10Long_any (A B : Option Addr) (n c m d : Nat) (hn : n ≤ maxLen) (hm : m ≤ maxLen) (w : World) :
    Calls Try.prog 9 #[.slice A n c, .slice B m d] w fun e w' => e = .returned (.bool (decide (1048576 < n) || decide (1048576 < m))) ∧ w = w' := by
  unfold maxLen at hn hm
  by_cases h1 : 1048576 < n
  · have t1 : (1048576 : Int) < (n : Int) := by omega
    go_enter Try.func9, Try.ntmps9
    go_wp2_with fail
    go_ret
    exact ⟨ret_bool (by simp [h1]), rfl⟩
  · have t1 : ¬ (1048576 : Int) < (n : Int) := by omega
    have F : Hid ((decide (1048576 < n) || decide (1048576 < m)) = decide ((1048576 : Int) < (m : Int))) := by
      simp [Hid, h1]; omega
    clear h1
    go_enter Try.func9, Try.ntmps9
    go_wp2_with fail
    go_ret
    exact ⟨ret_bool F.out.symm, rfl⟩

set_option maxHeartbeats 1000000 in
theorem b10At_any (A : Option Addr) (n c : Nat) (l : List Int) (k m : Nat) (w : World) (hl : BytesAt w A n l) (hm : 0 < m) (hm2 : m ≤ 70000) (hk : k ≤ 10) (_hn : n ≤ maxLen) :
    Calls Try.prog 11 #[.slice A n c, .int .i64 k, .int .i64 m] w fun e w' => (∃ v : Nat, v < m ∧ e = .returned (.int .i64 v)) ∧ w = w' := by
  by_cases hm1 : m = 1
  · have t0 : (m : Int) ≤ 1 := by omega
    clear hl hm1
    go_enter Try.func11, Try.ntmps11
    go_wp2_with fail
    go_ret
    exact ⟨⟨0, by omega, rfl⟩, rfl⟩
  have t0 : ¬ (m : Int) ≤ 1 := by omega
  have t1 : (m : Int) ≠ 0 := by omega
  by_cases h : k < n
  · obtain ⟨a, rfl, ha, hc⟩ := hl.2.2 (by omega)
    have hkl : k < l.length := by rw [hl.1]; exact h
    have c1 := hc k hkl
    obtain ⟨b0, b1⟩ := hl.2.1 l[k] (List.getElem_mem hkl)
    generalize l[k] = v at *
    have k1 : (k : Int) < (n : Int) := by omega
    have i0 : (0 : Int) ≤ (k : Int) := by omega
    clear hc hl
    go_enter Try.func11, Try.ntmps11
    go_wp2_with fail
    go_ret
    refine ⟨⟨(v % (m : Int)).toNat, ?_, ?_⟩, rfl⟩
    · have := Int.emod_lt_of_pos v (show (0 : Int) < m by omega)
      have := Int.emod_nonneg v (show (m : Int) ≠ 0 by omega)
      omega
    · have := Int.emod_nonneg v (show (m : Int) ≠ 0 by omega)
      have e1 : (((v % (m : Int)).toNat : Nat) : Int) = v % (m : Int) := by omega
      rw [e1]
      rfl
  · have k1 : ¬ (k : Int) < (n : Int) := by omega
    have q0 : (0 : Int) ≤ (k : Int) * 37 + 11 := by omega
    clear hl
    go_enter Try.func11, Try.ntmps11
    go_wp2_with fail
    go_ret
    refine ⟨⟨(((k : Int) * 37 + 11) % (m : Int)).toNat, ?_, ?_⟩, rfl⟩
    · have := Int.emod_lt_of_pos ((k : Int) * 37 + 11) (show (0 : Int) < m by omega)
      have := Int.emod_nonneg ((k : Int) * 37 + 11) (show (m : Int) ≠ 0 by omega)
      omega
    · have := Int.emod_nonneg ((k : Int) * 37 + 11) (show (m : Int) ≠ 0 by omega)
      have e1 : (((((k : Int) * 37 + 11) % (m : Int)).toNat : Nat) : Int) = ((k : Int) * 37 + 11) % (m : Int) := by omega
      rw [e1]
      rfl

end Go.Proofs.Ytkamkjbllmgifaa

namespace Go.Proofs.Ytkamkjbllmgifaa
open Go.RowKit

end Go.Proofs.Ytkamkjbllmgifaa

namespace Go.Proofs.Ytkamkjbllmgifaa
open Go.RowKit
open Vl

theorem gO_rowsV {V : World} {A : Option Addr} {O : Nat → Int} {W H : Nat} (h : MatRd V A (gO O W H)) (hH : 0 < H) (hW : 0 < W) :
    ∃ g, A = some ⟨g, 0, none⟩ ∧ g < V.heap.size ∧ ∀ y, y < H → ∃ r cr, V.cell? ⟨g, y, none⟩ = some (.slice (some ⟨r, 0, none⟩) W cr) ∧ r < V.heap.size ∧ ∀ x, x < W → V.cell? ⟨r, x, none⟩ = some (.int .i64 (O (y * W + x))) := by
  obtain ⟨g, e, hg, hc⟩ := h (by rw [gO_length]; exact hH)
  refine ⟨g, e, hg, fun y hy => ?_⟩
  have hy' : y < (gO O W H).length := by rw [gO_length]; exact hy
  obtain ⟨Ai, ci, q1, q2⟩ := hc y hy'
  rw [gO_w] at q1
  obtain ⟨r, rfl, hr, hcr⟩ := q2 (by simp [ints, gO_w]; exact hW)
  refine ⟨r, ci, q1, hr, fun x hx => ?_⟩
  have hx' : x < (gO O W H)[y].length := by rw [gO_w]; exact hx
  have := hcr x (by simpa [ints] using hx')
  rw [this]
  simp [ints, gO_get]
theorem gF_gOv (O : Nat → Int) {W H i : Nat} (h : i < W * H) (hW : 0 < W) : gF (gO O W H) W i = O i := by
  obtain ⟨e, hm⟩ := pl_eq i hW
  have hr := pl_row h
  rw [e, gF_at hm (by rw [gO_length]; exact hr) (by rw [gO_w]; exact hm), gO_get]
/-- A row of three numbers. -/
theorem mat_three {V : World} {A : Option Addr} {R : List (List Int)} (h : MatRd V A R) {k : Nat} (hk : k < R.length) {b p D : Int} (e : R[k] = [b, p, D]) :
    ∃ g r c, A = some ⟨g, 0, none⟩ ∧ g < V.heap.size ∧ r < V.heap.size ∧ V.cell? ⟨g, k, none⟩ = some (.slice (some ⟨r, 0, none⟩) 3 c) ∧ V.cell? ⟨r, 0, none⟩ = some (.int .i64 b) ∧ V.cell? ⟨r, 1, none⟩ = some (.int .i64 p) ∧ V.cell? ⟨r, 2, none⟩ = some (.int .i64 D) := by
  obtain ⟨g, e1, hg, hc⟩ := h (by omega)
  obtain ⟨Ai, ci, q1, q2⟩ := hc k hk
  rw [e] at q1 q2
  obtain ⟨r, rfl, hr, hcr⟩ := q2 (by simp [ints])
  exact ⟨g, r, ci, e1, hg, hr, q1, hcr 0 (by simp [ints]), hcr 1 (by simp [ints]), hcr 2 (by simp [ints])⟩
theorem cnt_take {R : List (List Int)} {f : List Int → Bool} {k : Nat} (hk : k < R.length) : ((R.take (k + 1)).filter f).length = ((R.take k).filter f).length + if f R[k] then 1 else 0 := by
  rw [List.take_succ_eq_append_getElem hk, List.filter_append, List.length_append, List.filter_cons, List.filter_nil]
  congr 1
  split <;> rfl
set_option maxRecDepth 100000 in
set_option maxHeartbeats 8000000 in
theorem walkValleys (w : World) (A : Option Addr) (n c : Nat) (l : List Int) (hl : BytesAt w A n l) (hn : n ≤ maxLen) (B : Option Addr) (m d : Nat) (l2 : List Int) (_hl2 : BytesAt w B m l2) (hm : m ≤ maxLen) :
    Calls Try.prog 5 #[.slice A n c, .slice B m d] w fun e w' => e = .returned (.bool true) ∧ Below w.heap.size w w' := by
  have LO := Lib.hid (b10Long_any A B n c m d hn hm w)
  cases hlong : (decide (1048576 < n) || decide (1048576 < m))
  case true =>
    rw [hlong] at LO
    clear hl hn hm hlong
    go_enter Try.func5, Try.ntmps5
    go_wp2_with (go_at_call 9; refine LO.out.mono ?_; rintro e w' ⟨rfl, rfl⟩)
    go_ret
    exact ⟨rfl, Ext.refl _⟩
  rw [hlong] at LO
  have RG := Lib.hid (b10Grey_any A n c l w hl hn)
  clear hl hn hm hlong
  go_enter Try.func5, Try.ntmps5
  go_wp2_with (go_at_call 9; refine LO.out.mono ?_; rintro e w' ⟨rfl, rfl⟩)
  refine RG.out.mono ?_
  rintro e w1 ⟨A1, c1, G, W, H, rfl, W0, W6, H0, H6, hG, M1, hb1⟩
  clear RG LO
  have B1 := Ext.more hb1 (.cells #[.slice A1 H c1] 26)
  have T1 := Blk.made w1 26 #[.slice A1 H c1]
  replace M1 := M1.ext (Ext.more (Ext.refl _) (.cells #[.slice A1 H c1] 26))
  clear hb1
  have GOK : greyOk (gO G W H) = true := gO_ok W0 (by omega) H0 (by omega) hG
  have RL : (gO G W H).length = H := gO_length _ _ _
  have TW : tabW (gO G W H) = W := tabW_gO _ H0
  have HVP := valP_of GOK
  rw [TW, RL] at HVP
  have VR : valR (gO G W H) = lastR (vSt (gO G W H)) (vSt (gO G W H)).n := by rw [valR, GOK]; rfl
  have hn1 : (gO G W H).length ≤ 1000000000 := by rw [RL]; omega
  have hr1 : ∀ i (h : i < (gO G W H).length), (gO G W H)[i].length ≤ 1000000000 := fun i h => by rw [gO_w]; omega
  have VV := Lib.hid (fun V (hV : MatRd V A1 (gO G W H)) => valleysOf_any A1 c1 (gO G W H) V hV hn1 hr1)
  have LV := Lib.hid (fun V (hV : MatRd V A1 (gO G W H)) => levelCounts_any A1 c1 (gO G W H) V hV hn1 hr1)
  have SV := Lib.hid (fun V (hV : MatRd V A1 (gO G W H)) => sameVal_any A1 c1 (gO G W H) A1 c1 (gO G W H) V hV hV hn1 hr1 hn1 hr1)
  have CV := Lib.hid (fun (L : Nat) V (hV : MatRd V A1 (gO G W H)) => countBelow_any A1 c1 (gO G W H) (L : Int) V hV hn1 hr1)
  have SVT : sameV (gO G W H) (gO G W H) = true := by rw [sameV, GOK]; simp
  have LCT : lcV (gO G W H) = lcL (gO G W H) 100 := by rw [lcV, GOK]; rfl
  have CBT : Hid (∀ L : Nat, L ≤ 99 → cbOk (gO G W H) (L : Int) = true ∧ cbV (gO G W H) (L : Int) = ((belowN (gO G W H) (L : Int) : Nat) : Int)) := fun L hL => by
    have h1 : cbOk (gO G W H) (L : Int) = true := by rw [cbOk, GOK]; simp [inB]; omega
    exact ⟨h1, by rw [cbV, if_pos h1]⟩
  have GG : Hid (∀ i, i < W * H → gF (gO G W H) W i = G i) := fun i hi => gF_gOv G hi W0
  rw [RL, VR, GOK] at VV
  rw [RL, LCT, GOK] at LV
  rw [RL, SVT] at SV
  rw [RL] at CV
  have LL : (lcL (gO G W H) 100).length = 100 := lcL_len _ _
  have LCC : Hid (∀ L : Nat, L < 100 → (ints (lcL (gO G W H) 100))[L]? = some (.int .i64 ((belowN (gO G W H) (L : Int) : Nat) : Int))) := fun L hL => by
    simp [ints, lcL, hL]
  obtain ⟨R, hR⟩ : ∃ R, lastR (vSt (gO G W H)) (vSt (gO G W H)).n = R := ⟨_, rfl⟩
  rw [hR] at VV HVP
  have HP := Lib.hid HVP
  have BN : Hid (∀ L : Nat, L ≤ 99 → belowN (gO G W H) (L : Int) = (R.filter (liveRow L)).length) := HVP.cnt
  have K0 := HVP.pos
  have K1 := HVP.few
  have LST : Hid (belowN (gO G W H) ((99 : Nat) : Int) = 1) := HVP.last
  obtain ⟨K, hK⟩ : ∃ K, R.length = K := ⟨_, rfl⟩
  rw [hK] at K0 K1
  have HK := Lib.hid hK
  have ROW : Hid (∀ k, k < K → ∃ (b D : Int) (p : Nat), (∃ h : k < R.length, R[k] = [b, (p : Int), D]) ∧ p < W * H ∧ G p = b ∧ 0 ≤ b ∧ b ≤ 99 ∧ D ≤ 99 ∧ -1 ≤ D ∧ (k = 0 → D = -1) ∧ (0 < k → D ≠ -1 ∧ b < D)) := fun k hk => by
    have hk' : k < R.length := by rw [hK]; exact hk
    obtain ⟨b, D, p, h1, h2, h3, h4⟩ := HVP.row k hk'
    exact ⟨b, D, p, ⟨hk', h1⟩, h2, by rw [← GG.out p h2]; exact h3, h4⟩
  have VV2 : Hid (∀ V, MatRd V A1 (gO G W H) → Calls Try.prog 13 #[.agg #[.slice A1 H c1]] V fun e w' => ∃ A c vs, e = .returned (.tuple #[.slice A K c, .bool true]) ∧ MatAt w' V.heap.size w'.heap.size A c vs R ∧ Below V.heap.size V w') := fun V hV => (VV.out V hV).mono fun e w' ⟨A, c, vs, h1, h2, h3⟩ => ⟨A, c, vs, by rw [← hK]; exact h1, h2, h3⟩
  have LV2 : Hid (∀ V, MatRd V A1 (gO G W H) → Calls Try.prog 21 #[.agg #[.slice A1 H c1]] V fun e w' => ∃ A c, e = .returned (.tuple #[.slice A (100 : Nat) c, .bool true]) ∧ w'.ownsRow V.heap.size 2 1 (.slice A 100 c) 100 (ints (lcL (gO G W H) 100)) ∧ Below V.heap.size V w') := fun V hV => (LV.out V hV).mono fun e w' ⟨A, c, h1, h2, h3⟩ => ⟨A, c, by rw [LL] at h1; exact h1, by rw [LL] at h2; exact h2, h3⟩
  clear VV LV HVP hR hK VR GOK RL TW hn1 hr1 SVT LCT GG LL hG
  have KC : Hid (∀ V, Blk V w1.heap.size 26 #[.slice A1 H c1] → V.cell? ⟨w1.heap.size, 0, none⟩ = some (.slice A1 H c1)) := fun V hT => by simpa using hT.cell 0
  have k1 := KC.out _ T1
  go_wp2_with fail
  refine (VV2.out _ M1).mono ?_
  rintro e w2 ⟨A2, c2, vs2, rfl, M2, hb2⟩
  have B2 := Ext.then_ B1 hb2
  have T2 := T1.under hb2 T1.lt
  replace M1 := M1.ext hb2
  clear T1 B1 hb2 k1
  have k1 := KC.out _ T2
  go_wp2_with fail
  refine (LV2.out _ M1).mono ?_
  rintro e w3 ⟨A3, c3, rfl, O3, hb3⟩
  have B3 := Ext.then_ B2 hb3
  have T3 := T2.under hb3 T2.lt
  replace M1 := M1.ext hb3
  replace M2 := M2.ext hb3
  clear T2 B2 hb3 k1
  have k1 := KC.out _ T3
  have t0 : ((K : Int) == 0) = false := by simp; omega
  go_wp2_with fail
  refine (SV.out _ M1).mono ?_
  rintro e w4 ⟨rfl, hb4⟩
  have B4 := Ext.then_ B3 hb4
  have T4 := T3.under hb4 T3.lt
  replace M1 := M1.ext hb4
  replace M2 := M2.ext hb4
  have O4 := own_ext hb4 O3
  clear T3 B3 hb4 k1 O3
  go_wp2_with fail
  obtain ⟨g1, rfl, l1, hR1⟩ := gO_rowsV M1 H0 W0
  have HR1 := Lib.hid hR1
  have k1 := KC.out _ T4
  have HBX := Lib.hid B4
  have FR : Hid (∀ V, Below w4.heap.size w4 V → V.cell? ⟨w1.heap.size, 0, none⟩ = some (.slice (some ⟨g1, 0, none⟩) H c1) ∧ (∀ y, y < H → ∃ r cr, V.cell? ⟨g1, y, none⟩ = some (.slice (some ⟨r, 0, none⟩) W cr) ∧ ∀ x, x < W → V.cell? ⟨r, x, none⟩ = some (.int .i64 (G (y * W + x)))) ∧ MatRd V A2 R ∧ MatRd V (some ⟨g1, 0, none⟩) (gO G W H) ∧ V.ownsRow w2.heap.size 2 1 (.slice A3 100 c3) 100 (ints (lcL (gO G W H) 100))) := fun V hV => by
    refine ⟨(hV.cell (p := ⟨w1.heap.size, 0, none⟩) T4.lt).trans k1, fun y hy => ?_, M2.rd.ext hV, M1.ext hV, own_ext hV O4⟩
    obtain ⟨r, cr, q1, q2, q3⟩ := hR1 y hy
    exact ⟨r, cr, (hV.cell (p := ⟨g1, y, none⟩) l1).trans q1, fun x hx => (hV.cell (p := ⟨r, x, none⟩) q2).trans (q3 x hx)⟩
  clear hR1 k1 M1 M2 O4 T4 B4 l1
  have ROW2 := ROW
  go_wp2_with fail
  go_loopw [10, 11] (fun iv _ wr => ∃ i : Nat, i ≤ K ∧ iv = .int .i64 i ∧ Below w4.heap.size w4 wr) (fun iv _ _ => K - (intOf iv).toNat)
  case atStart => exact ⟨0, Nat.zero_le _, rfl, Ext.refl _⟩
  case round =>
    obtain ⟨i, hi, rfl, hb⟩ := hrel
    by_cases hlt : i < K
    · obtain ⟨b, D, p, ⟨hkr, er⟩, hp, hG, b0, b9, D9, D0, f1, f2⟩ := ROW.out i hlt
      obtain ⟨x1, x2, x3, -, -⟩ := FR.out wr hb
      obtain ⟨g2, r2, cr2, rfl, -, -, y0, y1, y2, y3⟩ := mat_three x3 hkr er
      obtain ⟨ra, qa, za, -⟩ := x2 0 H0
      have hpx := Nat.mod_lt p W0
      have hpy := pl_row hp
      have pe := (pl_eq p W0).1
      obtain ⟨rb, qb, zb, zc⟩ := x2 (p / W) hpy
      have zd := zc (p % W) hpx
      rw [← pe, hG] at zd
      have wm : IntKind.i64.wrap ((H : Int) * (W : Int)) = ((W * H : Nat) : Int) := by
        have h36 : W * H ≤ 36 := Nat.le_trans (Nat.mul_le_mul W6 H6) (by decide)
        rw [← Int.natCast_mul, Nat.mul_comm H W]
        exact IntWalk.i64_in _ (by omega)
      have t1 : decide ((p : Int) < 0) = false := decide_eq_false (by omega)
      have t2 : decide (W * H ≤ p) = false := decide_eq_false (by omega)
      have i0 : (0 : Int) ≤ (i : Int) := by omega
      have i1 : (i : Int) < (K : Int) := by omega
      have i2 : (0 : Int) < (H : Int) := by omega
      have wi : IntKind.i64.wrap ((i : Int) + 1) = ((i + 1 : Nat) : Int) := by rw [IntWalk.i64_in _ (by omega)]; simp
      have hq : (p : Int).tdiv (W : Int) = ((p / W : Nat) : Int) := by rw [Int.tdiv_eq_ediv_of_nonneg (by omega)]; rfl
      have hm' : (p : Int).tmod (W : Int) = ((p % W : Nat) : Int) := by rw [Int.tmod_eq_emod_of_nonneg (by omega)]; rfl
      clear x3 hkr er zc x2 hp pe hG
      obtain ⟨py, hpy'⟩ : ∃ py, p / W = py := ⟨_, rfl⟩
      obtain ⟨px, hpx'⟩ : ∃ px, p % W = px := ⟨_, rfl⟩
      rw [hpy'] at hq zb hpy
      rw [hpx'] at hm' zd hpx
      have w0 : ¬ (W : Int) = 0 := by omega
      have p0 : (0 : Int) ≤ (py : Int) := by omega
      have p1 : (py : Int) < (H : Int) := by omega
      have p2 : (0 : Int) ≤ (px : Int) := by omega
      have p3 : (px : Int) < (W : Int) := by omega
      have HY := Lib.hid (And.intro hpy' hpx')
      clear hpy' hpx'
      generalize W * H = N at *
      go_wp2_with fail
      go_quiet (fail)
      have tb : (b != b) = false := by simp
      by_cases h0 : i = 0
      · have d1 := f1 h0
        subst h0
        subst d1
        clear f1 f2
        go_wp2_with fail
        go_quiet (fail)
        go_wp2_with fail
        go_roundw
        case rel => exact ⟨0 + 1, by omega, by go_num, by first | exact Ext.drawN hb _ | exact Ext.drawN (Ext.drawN hb _) _⟩
        case measure => simp [intOf]; omega
      · obtain ⟨d1, d2⟩ := f2 (by omega)
        have e1 : ((i : Int) == 0) = false := by simp; omega
        have e2 : (D == -1) = false := by simpa using d1
        have e3 : decide (0 < i) = true := decide_eq_true (by omega)
        have e4 : decide (D ≤ b) = false := decide_eq_false (by omega)
        clear f1 f2 d1
        go_wp2_with fail
        go_quiet (fail)
        go_wp2_with fail
        go_roundw
        case rel => exact ⟨i + 1, by omega, by go_num, by first | exact Ext.drawN hb _ | exact Ext.drawN (Ext.drawN hb _) _⟩
        case measure => simp [intOf]; omega
    · obtain rfl : K = i := by omega
      obtain ⟨-, -, -, -, x5⟩ := FR.out wr hb
      obtain ⟨A3', c3', e3, hA3⟩ := own_form x5
      simp only [Value.slice.injEq, true_and] at e3
      obtain ⟨rfl, rfl⟩ := e3
      obtain ⟨g3, rfl⟩ := hA3 (by decide)
      clear x5 ROW
      go_wp2_with fail
      go_loopw [12, 13, 14, 15, 16] (fun lv _ _ _ _ wr => ∃ L : Nat, L ≤ 10 ∧ lv = .int .i64 L ∧ Below w4.heap.size w4 wr) (fun lv _ _ _ _ _ => 10 - (intOf lv).toNat)
      case atStart => exact ⟨0, Nat.zero_le _, rfl, hb⟩
      case round =>
        obtain ⟨L, hL, rfl, hbL⟩ := hrel
        clear hb
        by_cases hll : L < 10
        · obtain ⟨x1, -, -, x4, -⟩ := FR.out wr hbL
          have CC := Lib.hid (CV.out L wr x4)
          rw [(CBT.out L (by omega)).1, (CBT.out L (by omega)).2, BN.out L (by omega)] at CC
          have LC := LCC.out L (by omega)
          rw [BN.out L (by omega)] at LC
          have LCH := Lib.hid LC
          obtain ⟨NL, hNL⟩ : ∃ NL, (R.filter (liveRow L)).length = NL := ⟨_, rfl⟩
          rw [hNL] at CC LCH
          have q0 : (L : Int) ≤ 9 := by omega
          have q1 : (0 : Int) ≤ (L : Int) := by omega
          have q2 : (L : Int) < 100 := by omega
          have wl : IntKind.i64.wrap ((L : Int) + 1) = ((L + 1 : Nat) : Int) := by rw [IntWalk.i64_in _ (by omega)]; simp
          have HNL := Lib.hid hNL
          clear x4 LC hNL
          go_wp2_with fail
          refine CC.out.mono ?_
          rintro e w5 ⟨rfl, hb5⟩
          have hB5 := Ext.then_ hbL hb5
          clear x1 hb5 CC hbL
          go_wp2_with fail
          go_loopw [15, 16] (fun wv jv wr => ∃ j : Nat, j ≤ K ∧ jv = .int .i64 j ∧ wv = .int .i64 (((R.take j).filter (liveRow L)).length : Nat) ∧ Below w4.heap.size w4 wr) (fun _ jv _ => K - (intOf jv).toNat)
          case atStart => exact ⟨0, Nat.zero_le _, rfl, rfl, hB5⟩
          case round =>
            obtain ⟨j, hj, rfl, rfl, hbj⟩ := hrel
            clear hB5
            by_cases hjl : j < K
            · obtain ⟨b, D, p, ⟨hkr, er⟩, -⟩ := ROW2.out j hjl
              obtain ⟨-, -, x3, -, -⟩ := FR.out wr hbj
              obtain ⟨g2, r2, cr2, rfl, -, -, y0, y1, y2, y3⟩ := mat_three x3 hkr er
              have CT := cnt_take (f := liveRow L) hkr
              have LR : liveRow L R[j] = (decide (b ≤ (L : Int)) && (decide (D = -1) || decide ((L : Int) < D))) := by rw [er]; rfl
              rw [LR] at CT
              have cB : ((R.take j).filter (liveRow L)).length ≤ K := Nat.le_trans (List.length_filter_le _ _) (by rw [List.length_take]; have := HK.out; omega)
              have HCT := Lib.hid CT
              obtain ⟨ct, hct⟩ : ∃ ct, ((R.take j).filter (liveRow L)).length = ct := ⟨_, rfl⟩
              rw [hct] at HCT cB
              rw [hct]
              have j0 : (0 : Int) ≤ (j : Int) := by omega
              have j1 : (j : Int) < (K : Int) := by omega
              have wj : IntKind.i64.wrap ((j : Int) + 1) = ((j + 1 : Nat) : Int) := by rw [IntWalk.i64_in _ (by omega)]; simp
              have wc : IntKind.i64.wrap ((ct : Int) + 1) = ((ct + 1 : Nat) : Int) := by rw [IntWalk.i64_in _ (by omega)]; simp
              clear x3 hkr er CT LR hct
              by_cases c1 : b ≤ (L : Int)
              · have t1 : decide (b ≤ (L : Int)) = true := decide_eq_true c1
                by_cases c2 : D = -1
                · have t2 : (D == -1) = true := by simpa using c2
                  have F : Hid (((R.take (j + 1)).filter (liveRow L)).length = ct + 1) := by rw [Hid, HCT.out, t1, decide_eq_true c2]; rfl
                  clear c1 c2 HCT
                  go_wp2_with fail
                  go_roundw
                  case rel => exact ⟨j + 1, by omega, by go_num, by rw [F.out]; simp, hbj⟩
                  case measure => simp [intOf]; omega
                · have t2 : (D == -1) = false := by simpa using c2
                  by_cases c3 : (L : Int) < D
                  · have t3 : decide ((L : Int) < D) = true := decide_eq_true c3
                    have F : Hid (((R.take (j + 1)).filter (liveRow L)).length = ct + 1) := by rw [Hid, HCT.out, t1, decide_eq_false c2, t3]; rfl
                    clear c1 c2 c3 HCT
                    go_wp2_with fail
                    go_roundw
                    case rel => exact ⟨j + 1, by omega, by go_num, by rw [F.out]; simp, hbj⟩
                    case measure => simp [intOf]; omega
                  · have t3 : decide ((L : Int) < D) = false := decide_eq_false c3
                    have F : Hid (((R.take (j + 1)).filter (liveRow L)).length = ct) := by rw [Hid, HCT.out, t1, decide_eq_false c2, t3]; rfl
                    clear c1 c2 c3 HCT
                    go_wp2_with fail
                    go_roundw
                    case rel => exact ⟨j + 1, by omega, by go_num, by rw [F.out], hbj⟩
                    case measure => simp [intOf]; omega
              · have t1 : decide (b ≤ (L : Int)) = false := decide_eq_false c1
                have F : Hid (((R.take (j + 1)).filter (liveRow L)).length = ct) := by rw [Hid, HCT.out, t1]; rfl
                clear c1 HCT
                go_wp2_with fail
                go_roundw
                case rel => exact ⟨j + 1, by omega, by go_num, by rw [F.out], hbj⟩
                case measure => simp [intOf]; omega
            · obtain rfl : K = j := by omega
              have TK : R.take K = R := List.take_of_length_le (by rw [HK.out]; omega)
              rw [TK, HNL.out]
              obtain ⟨-, -, -, -, x5⟩ := FR.out wr hbj
              have y1 := (x5.cellAt L (by omega)).trans LCH.out
              have tn : (((NL : Nat) : Int) != ((NL : Nat) : Int)) = false := by simp
              clear x5 TK
              go_wp2_with fail
              go_roundw
              case rel => exact ⟨L + 1, by omega, by go_num, hbj⟩
              case measure => simp [intOf]; omega
        · obtain rfl : L = 10 := by omega
          obtain ⟨-, -, -, -, x5⟩ := FR.out wr hbL
          have y1 := (x5.cellAt 99 (by omega)).trans (LCC.out 99 (by omega))
          rw [LST.out] at y1
          have q0 : ¬ (((10 : Nat) : Int) ≤ 9) := by omega
          have HB := Lib.hid (Ext.then_ HBX.out hbL)
          clear x5 hbL
          go_wp2_with fail
          go_ret
          exact ⟨rfl, HB.out⟩
end Go.Proofs.Ytkamkjbllmgifaa
