/- SameValleys: two lists of lists compared, by the program and by the reference. -/
import Derived.Test.YtkamkjbllmgifaaVlX
import Derived.Test.YtkamkjbllmgifaaSlEq
namespace Go.Proofs.Ytkamkjbllmgifaa
open Go.RowKit

theorem mtG_no {R T : List (List Int)} {k : Nat} (h : R.getD k [] ≠ T.getD k []) : decide (R = T) = false := by
  rw [decide_eq_false_iff_not]; rintro rfl; exact h rfl
theorem mtG_yes {R T : List (List Int)} (hl : R.length = T.length) (h : ∀ k, k < R.length → R.getD k [] = T.getD k []) : decide (R = T) = true := by
  rw [decide_eq_true_iff]
  apply List.ext_getElem hl
  intro i h1 h2
  have := h i h1
  simpa [List.getD_eq_getElem?_getD, h1, h2] using this
theorem mtG_cell {w : World} {A : Option Addr} {R : List (List Int)} (h : MatRd w A R) {k : Nat} (hk : k < R.length) :
    ∃ g A1 c1, A = some ⟨g, 0, none⟩ ∧ g < w.heap.size ∧ w.cell? ⟨g, k, none⟩ = some (.slice A1 (R.getD k []).length c1) ∧ Rd w A1 (ints (R.getD k [])) := by
  obtain ⟨g, e, hg, hc⟩ := h (by omega)
  obtain ⟨A1, c1, h1, h2⟩ := hc k hk
  have e2 : R.getD k [] = R[k] := by simp [List.getD_eq_getElem?_getD, hk]
  rw [e2]
  exact ⟨g, A1, c1, e, hg, h1, h2⟩
set_option maxRecDepth 100000 in
set_option maxHeartbeats 1000000 in
theorem same1_any (A B : Option Addr) (ca cb : Nat) (L M : List Int) (w : World) (hA : Rd w A (ints L)) (hB : Rd w B (ints M)) (hn : L.length ≤ 1000000000) (hn2 : M.length ≤ 1000000000) :
    Calls Try.prog 91 #[.slice A L.length ca, .slice B M.length cb] w fun e w' => e = .returned (.bool (decide (L = M))) ∧ ∃ k, w' = w.drewN k := by
  have C := Lib.hid (slicesEqual_any A B ca cb _ _ L M w hA hB rfl rfl hn hn2)
  clear hA hB
  generalize decide (L = M) = r at *
  generalize L.length = n at *
  generalize M.length = m at *
  go_enter Try.func91, Try.ntmps91
  go_wp2_with fail
  refine C.out.mono ?_
  rintro e w2 ⟨rfl, hk⟩
  go_wp2_with fail
  go_ret
  exact ⟨rfl, hk⟩
set_option maxRecDepth 100000 in
set_option maxHeartbeats 1000000 in
theorem equalFunc_any (A B : Option Addr) (ca cb : Nat) (R T : List (List Int)) (w : World) (hA : MatRd w A R) (hB : MatRd w B T) (hn : R.length ≤ 1000000000) (hn2 : T.length ≤ 1000000000) (hr : ∀ i (h : i < R.length), R[i].length ≤ 1000000000) (ht : ∀ i (h : i < T.length), T[i].length ≤ 1000000000) :
    Calls Try.prog 90 #[.slice A R.length ca, .slice B T.length cb, .func (.func 91) #[] #[]] w fun e w' => e = .returned (.bool (decide (R = T))) ∧ ∃ k, w' = w.drewN k := by
  obtain ⟨n, hl⟩ : ∃ n, R.length = n := ⟨_, rfl⟩
  obtain ⟨m, hm⟩ : ∃ m, T.length = m := ⟨_, rfl⟩
  have HR : Hid (∀ k, k < n → (R.getD k []).length ≤ 1000000000) := fun k hk => by
    have : R.getD k [] = R[k]'(by omega) := by simp [List.getD_eq_getElem?_getD, hl, hk]
    rw [this]; exact hr k (by omega)
  have HT : Hid (∀ k, k < m → (T.getD k []).length ≤ 1000000000) := fun k hk => by
    have : T.getD k [] = T[k]'(by omega) := by simp [List.getD_eq_getElem?_getD, hm, hk]
    rw [this]; exact ht k (by omega)
  rw [hl] at hn ⊢
  rw [hm] at hn2 ⊢
  by_cases hnm : n = m
  · subst hnm
    have t0 : ((n : Int) != (n : Int)) = false := by simp
    have NO := Lib.hid (fun k => @mtG_no R T k)
    have YES := Lib.hid (fun (h : ∀ k, k < n → R.getD k [] = T.getD k []) => mtG_yes (R := R) (T := T) (by omega) (by rw [hl]; exact h))
    have CA := Lib.hid (fun j k (h : k < n) => mtG_cell (hA.drewN j) (k := k) (by omega))
    have CB := Lib.hid (fun j k (h : k < n) => mtG_cell (hB.drewN j) (k := k) (by omega))
    clear hA hB hl hm hr ht
    generalize decide (R = T) = r at *
    go_enter Try.func90, Try.ntmps90
    go_wp2_with fail
    go_loopw [7, 8, 9, 17] (fun _ _ _ i wr => ∃ k j : Nat, k ≤ n ∧ i = .int .i64 k ∧ wr = w.drewN j ∧ Hid (∀ q, q < k → R.getD q [] = T.getD q [])) (fun _ _ _ i _ => n - (intOf i).toNat)
    case atStart => exact ⟨0, 0, Nat.zero_le _, rfl, rfl, fun q h => absurd h (Nat.not_lt_zero _)⟩
    case round =>
      obtain ⟨k, j, hk, rfl, rfl, hall⟩ := hrel
      by_cases hlt : k < n
      · obtain ⟨g, A1, c1, rfl, hg, k1, r1⟩ := CA.out j k hlt
        obtain ⟨g', B1, d1, rfl, hg', k2, r2⟩ := CB.out j k hlt
        have C := Lib.hid (same1_any A1 B1 c1 d1 _ _ (w.drewN j) r1 r2 (HR.out k hlt) (HT.out k hlt))
        have NK := Lib.hid (NO.out k)
        have SU := Lib.hid (fun (h : R.getD k [] = T.getD k []) q (hq : q < k + 1) => (show R.getD q [] = T.getD q [] from by
          rcases Nat.lt_succ_iff_lt_or_eq.1 hq with h1 | h1
          · exact hall q h1
          · rw [h1]; exact h))
        clear hall r1 r2
        generalize R.getD k [] = x at *
        generalize T.getD k [] = y at *
        have i0 : (0 : Int) ≤ (k : Int) := by omega
        have i1 : (k : Int) < (n : Int) := by omega
        by_cases he : x = y
        · have S1 := Lib.hid (SU.out he)
          rw [decide_eq_true he] at C
          clear he SU NK
          go_wp2_with fail
          refine C.out.mono ?_
          rintro e w2 ⟨rfl, q, rfl⟩
          go_wp2_with fail
          go_roundw
          case rel => exact ⟨k + 1, j + q, by omega, by go_num, rfl, S1.out⟩
          case measure => simp [intOf]; omega
        · have N1 := Lib.hid (NK.out he)
          rw [decide_eq_false he] at C
          clear he SU NK
          go_wp2_with fail
          refine C.out.mono ?_
          rintro e w2 ⟨rfl, q, rfl⟩
          go_wp2_with fail
          go_ret
          exact ⟨ret_bool N1.out.symm, j + q, rfl⟩
      · obtain rfl : k = n := by omega
        have Y1 := Lib.hid (YES.out hall)
        clear hall
        go_wp2_with fail
        go_ret
        exact ⟨ret_bool Y1.out.symm, j, rfl⟩
  · have t0 : ((n : Int) != (m : Int)) = true := by simp; omega
    have F : Hid (decide (R = T) = false) := by rw [Hid, decide_eq_false_iff_not]; rintro rfl; omega
    rw [F.out]
    clear hnm hl hm hA hB hr ht HR HT
    go_enter Try.func90, Try.ntmps90
    go_wp2_with fail
    go_ret
    exact ⟨rfl, 0, rfl⟩
set_option maxRecDepth 100000 in
set_option maxHeartbeats 1000000 in
theorem sameLists_any (A B : Option Addr) (ca cb : Nat) (R T : List (List Int)) (w : World) (hA : MatRd w A R) (hB : MatRd w B T) (hn : R.length ≤ 1000000000) (hn2 : T.length ≤ 1000000000) (hr : ∀ i (h : i < R.length), R[i].length ≤ 1000000000) (ht : ∀ i (h : i < T.length), T[i].length ≤ 1000000000) :
    Calls Try.prog 53 #[.slice A R.length ca, .slice B T.length cb] w fun e w' => e = .returned (.bool (decide (R = T))) ∧ Below w.heap.size w w' := by
  have C := Lib.hid (equalFunc_any A B ca cb R T w hA hB hn hn2 hr ht)
  clear hA hB hr ht
  generalize decide (R = T) = r at *
  generalize R.length = n at *
  generalize T.length = m at *
  go_enter Try.func53, Try.ntmps53
  go_wp2_with fail
  refine C.out.mono ?_
  rintro e w2 ⟨rfl, k, rfl⟩
  go_wp2_with fail
  go_ret
  exact ⟨rfl, Ext.drawN (Ext.refl _) k⟩
/-- Two grey pictures have the same valleys. -/
def sameV (gr hr : List (List Int)) : Bool := greyOk gr && (greyOk hr && decide (lastR (vSt gr) (vSt gr).n = lastR (vSt hr) (vSt hr).n))
theorem lastR_small {gr : List (List Int)} (h : greyOk gr = true) : (lastR (vSt gr) (vSt gr).n).length ≤ 1000000000 ∧ ∀ i (h : i < (lastR (vSt gr) (vSt gr).n).length), (lastR (vSt gr) (vSt gr).n)[i].length ≤ 1000000000 := by
  refine ⟨Nat.le_trans (Nat.le_trans (lastR_len _ _) (vSt_n h)) (by decide), fun i hi => ?_⟩
  have := List.getElem_mem hi
  unfold lastR at this
  obtain ⟨v, _, e⟩ := List.mem_filterMap.1 this
  split at e
  · cases e
  · injection e with e
    have e2 : (lastR (vSt gr) (vSt gr).n)[i] = (List.filterMap (fun v => if (vSt gr).dies v == (vSt gr).born v then none else some [(vSt gr).born v, (((vSt gr).place v : Nat) : Int), (vSt gr).dies v]) (List.range (vSt gr).n))[i]'hi := rfl
    rw [e2, ← e]
    simp
set_option maxRecDepth 100000 in
set_option maxHeartbeats 4000000 in
theorem sameVal_any (A : Option Addr) (c : Nat) (gr : List (List Int)) (A2 : Option Addr) (c2 : Nat) (hr : List (List Int)) (w : World) (h : MatRd w A gr) (h2 : MatRd w A2 hr)
    (hn : gr.length ≤ 1000000000) (hs : ∀ i (h : i < gr.length), gr[i].length ≤ 1000000000) (hn2 : hr.length ≤ 1000000000) (hs2 : ∀ i (h : i < hr.length), hr[i].length ≤ 1000000000) :
    Calls Try.prog 22 #[.agg #[.slice A gr.length c], .agg #[.slice A2 hr.length c2]] w fun e w' => e = .returned (.bool (sameV gr hr)) ∧ Below w.heap.size w w' := by
  obtain ⟨wB, hwB⟩ : ∃ wB, (w.alloc (.cells #[.slice A gr.length c] 26)).alloc (.cells #[.slice A2 hr.length c2] 26) = wB := ⟨_, rfl⟩
  have B1 : Below w.heap.size w wB := by rw [← hwB]; exact Ext.more (Ext.more (Ext.refl _) _) _
  have G1 : GreyAt wB w.heap.size A c gr := by rw [← hwB]; exact (GreyAt.boxed h _).ext (Ext.more (Ext.refl _) _)
  have G2 : GreyAt wB (w.heap.size + 1) A2 c2 hr := by
    rw [← hwB]
    have := GreyAt.boxed (c := c2) (h2.ext (Ext.more (Ext.refl w) (.cells #[.slice A gr.length c] 26))) 26
    rwa [World.size_alloc] at this
  have VG := Lib.hid (fun V (hV : Below w.heap.size w V) => validGrey_any A c gr V (h.ext hV) hn hs)
  have VH := Lib.hid (fun V (hV : Below w.heap.size w V) => validGrey_any A2 c2 hr V (h2.ext hV) hn2 hs2)
  have GX := Lib.hid (fun V (hb : Below wB.heap.size wB V) => G1.ext hb)
  have GY := Lib.hid (fun V (hb : Below wB.heap.size wB V) => G2.ext hb)
  have c0 := G1.cell
  have l0 := G1.lt
  cases hg : greyOk gr
  · have F2 : Hid (sameV gr hr = false) := by rw [Hid, sameV, hg]; rfl
    rw [hg] at VG
    rw [F2.out]
    clear hg hn hs h h2 hn2 hs2 G1 G2 VH GX GY
    generalize gr.length = n1 at *
    generalize hr.length = n2 at *
    go_enter Try.func22, Try.ntmps22
    go_upto_region 1 with fail
    try simp only [hwB]
    go_wp2_with fail
    refine (VG.out _ B1).mono ?_
    rintro e w2 ⟨rfl, hb⟩
    go_wp2_with fail
    go_ret
    exact ⟨rfl, Ext.then_ B1 hb⟩
  · rw [hg] at VG
    cases hh : greyOk hr
    · have F2 : Hid (sameV gr hr = false) := by rw [Hid, sameV, hg, hh]; rfl
      rw [hh] at VH
      rw [F2.out]
      clear hg hh hn hs h h2 hn2 hs2 G1 G2
      generalize gr.length = n1 at *
      go_enter Try.func22, Try.ntmps22
      go_upto_region 1 with fail
      try simp only [hwB]
      go_wp2_with fail
      refine (VG.out _ B1).mono ?_
      rintro e w2 ⟨rfl, hb⟩
      have c1 := (GY.out _ hb).cell
      have B2 := Ext.then_ B1 hb
      clear c0 l0
      go_wp2_with fail
      refine (VH.out _ B2).mono ?_
      rintro e w3 ⟨rfl, hb3⟩
      go_wp2_with fail
      go_ret
      exact ⟨rfl, Ext.then_ B2 hb3⟩
    · have F2 : Hid (sameV gr hr = decide (lastR (vSt gr) (vSt gr).n = lastR (vSt hr) (vSt hr).n)) := by rw [Hid, sameV, hg, hh]; rfl
      rw [hh] at VH
      have LA := Lib.hid (fun V (hV : GreyAt V w.heap.size A c gr) => lasting_any w.heap.size A c gr V hV hg)
      have LB := Lib.hid (fun V (hV : GreyAt V (w.heap.size + 1) A2 c2 hr) => lasting_any (w.heap.size + 1) A2 c2 hr V hV hh)
      have s1 := lastR_small hg
      have s2 := lastR_small hh
      rw [F2.out]
      clear hg hh hn hs h h2 hn2 hs2 G1 G2
      generalize lastR (vSt gr) (vSt gr).n = R at *
      generalize lastR (vSt hr) (vSt hr).n = T at *
      have SL := Lib.hid (fun V (A1 B1 : Option Addr) (ca cb : Nat) (x1 : MatRd V A1 R) (x2 : MatRd V B1 T) => sameLists_any A1 B1 ca cb R T V x1 x2 s1.1 s2.1 s1.2 s2.2)
      clear s1 s2
      generalize decide (R = T) = r at *
      generalize hR : R.length = n3 at *
      generalize hT : T.length = n4 at *
      clear hR hT F2
      generalize gr.length = n1 at *
      go_enter Try.func22, Try.ntmps22
      go_upto_region 1 with fail
      try simp only [hwB]
      go_wp2_with fail
      refine (VG.out _ B1).mono ?_
      rintro e w2 ⟨rfl, hb⟩
      have c1 := (GY.out _ hb).cell
      have B2 := Ext.then_ B1 hb
      clear c0 l0
      go_wp2_with fail
      refine (VH.out _ B2).mono ?_
      rintro e w3 ⟨rfl, hb3⟩
      have bB := Ext.then_ hb hb3
      have B3 := Ext.then_ B2 hb3
      go_wp2_with fail
      refine (LA.out _ (GX.out _ bB)).mono ?_
      rintro e w4 ⟨A4, c4, vs4, rfl, M4, hb4⟩
      have bB4 := Ext.then_ bB hb4
      have B4 := Ext.then_ B3 hb4
      go_wp2_with fail
      refine (LB.out _ (GY.out _ bB4)).mono ?_
      rintro e w5 ⟨A5, c5, vs5, rfl, M5, hb5⟩
      have B5 := Ext.then_ B4 hb5
      go_wp2_with fail
      refine (SL.out _ _ _ _ _ (M4.ext hb5).rd M5.rd).mono ?_
      rintro e w6 ⟨rfl, hb6⟩
      go_wp2_with fail
      go_ret
      exact ⟨rfl, Ext.then_ B5 hb6⟩
set_option maxRecDepth 100000 in
set_option maxHeartbeats 4000000 in
theorem sameValS_any (A : Option Addr) (c : Nat) (gr : List (List Int)) (A2 : Option Addr) (c2 : Nat) (hr : List (List Int)) (w : World) (h : MatRd w A gr) (h2 : MatRd w A2 hr)
    (hn : gr.length ≤ 1000000000) (hs : ∀ i (h : i < gr.length), gr[i].length ≤ 1000000000) (hn2 : hr.length ≤ 1000000000) (hs2 : ∀ i (h : i < hr.length), hr[i].length ≤ 1000000000) :
    Calls Try.prog 32 #[.agg #[.slice A gr.length c], .agg #[.slice A2 hr.length c2]] w fun e w' => e = .returned (.bool (sameV gr hr)) ∧ Below w.heap.size w w' := by
  obtain ⟨wB, hwB⟩ : ∃ wB, (w.alloc (.cells #[.slice A gr.length c] 26)).alloc (.cells #[.slice A2 hr.length c2] 26) = wB := ⟨_, rfl⟩
  have B1 : Below w.heap.size w wB := by rw [← hwB]; exact Ext.more (Ext.more (Ext.refl _) _) _
  have G1 : GreyAt wB w.heap.size A c gr := by rw [← hwB]; exact (GreyAt.boxed h _).ext (Ext.more (Ext.refl _) _)
  have G2 : GreyAt wB (w.heap.size + 1) A2 c2 hr := by
    rw [← hwB]
    have := GreyAt.boxed (c := c2) (h2.ext (Ext.more (Ext.refl w) (.cells #[.slice A gr.length c] 26))) 26
    rwa [World.size_alloc] at this
  have VG := Lib.hid (isGreyS_any w.heap.size A c gr wB G1 hn hs)
  have VH := Lib.hid (fun k => isGreyS_any (w.heap.size + 1) A2 c2 hr (wB.drewN k) (G2.drewN k) hn2 hs2)
  have GX := Lib.hid (fun V (hb : Below wB.heap.size wB V) => G1.ext hb)
  have GY := Lib.hid (fun V (hb : Below wB.heap.size wB V) => G2.ext hb)
  cases hg : greyOk gr
  · have F2 : Hid (sameV gr hr = false) := by rw [Hid, sameV, hg]; rfl
    rw [hg] at VG
    rw [F2.out]
    clear hg hn hs h h2 hn2 hs2 G1 G2 VH GX GY
    generalize gr.length = n1 at *
    generalize hr.length = n2 at *
    go_enter Try.func32, Try.ntmps32
    go_upto_region 1 with fail
    try simp only [hwB]
    go_wp2_with fail
    refine VG.out.mono ?_
    rintro e w2 ⟨rfl, k, rfl⟩
    go_wp2_with fail
    go_ret
    exact ⟨rfl, Ext.drawN B1 k⟩
  · rw [hg] at VG
    cases hh : greyOk hr
    · have F2 : Hid (sameV gr hr = false) := by rw [Hid, sameV, hg, hh]; rfl
      rw [hh] at VH
      rw [F2.out]
      clear hg hh hn hs h h2 hn2 hs2 G1 G2
      generalize gr.length = n1 at *
      generalize hr.length = n2 at *
      go_enter Try.func32, Try.ntmps32
      go_upto_region 1 with fail
      try simp only [hwB]
      go_wp2_with fail
      refine VG.out.mono ?_
      rintro e w2 ⟨rfl, k, rfl⟩
      go_wp2_with fail
      refine (VH.out k).mono ?_
      rintro e w3 ⟨rfl, k3, rfl⟩
      go_wp2_with fail
      go_ret
      exact ⟨rfl, Ext.drawN B1 (k + k3)⟩
    · have F2 : Hid (sameV gr hr = decide (lastR (vSt gr) (vSt gr).n = lastR (vSt hr) (vSt hr).n)) := by rw [Hid, sameV, hg, hh]; rfl
      rw [hh] at VH
      have LA := Lib.hid (fun V (hV : GreyAt V w.heap.size A c gr) => pairs_any w.heap.size A c gr V hV hg)
      have LB := Lib.hid (fun V (hV : GreyAt V (w.heap.size + 1) A2 c2 hr) => pairs_any (w.heap.size + 1) A2 c2 hr V hV hh)
      have s1 := lastR_small hg
      have s2 := lastR_small hh
      rw [F2.out]
      clear hg hh hn hs h h2 hn2 hs2 G1 G2 F2
      generalize lastR (vSt gr) (vSt gr).n = R at *
      generalize lastR (vSt hr) (vSt hr).n = T at *
      obtain ⟨n, hl⟩ : ∃ n, R.length = n := ⟨_, rfl⟩
      obtain ⟨m, hm⟩ : ∃ m, T.length = m := ⟨_, rfl⟩
      have HR : Hid (∀ k, k < n → (R.getD k []).length ≤ 1000000000) := fun k hk => by
        have : R.getD k [] = R[k]'(by omega) := by simp [List.getD_eq_getElem?_getD, hl, hk]
        rw [this]; exact s1.2 k (by omega)
      have HT : Hid (∀ k, k < m → (T.getD k []).length ≤ 1000000000) := fun k hk => by
        have : T.getD k [] = T[k]'(by omega) := by simp [List.getD_eq_getElem?_getD, hm, hk]
        rw [this]; exact s2.2 k (by omega)
      have nB : n ≤ 1000000000 := by rw [← hl]; exact s1.1
      have mB : m ≤ 1000000000 := by rw [← hm]; exact s2.1
      have CA := Lib.hid (fun V A (x : MatRd V A R) k (h : k < n) => mtG_cell x (k := k) (by omega))
      have CB := Lib.hid (fun V A (x : MatRd V A T) k (h : k < m) => mtG_cell x (k := k) (by omega))
      have NE := Lib.hid (fun (e : n ≠ m) => show decide (R = T) = false from by rw [decide_eq_false_iff_not]; rintro rfl; exact e (hl.symm.trans hm))
      have NO := Lib.hid (fun k => @mtG_no R T k)
      have YES := Lib.hid (fun (e : n = m) (h : ∀ k, k < n → R.getD k [] = T.getD k []) => mtG_yes (R := R) (T := T) (by omega) (by rw [hl]; exact h))
      rw [hl] at LA
      rw [hm] at LB
      clear s1 s2 hl hm
      generalize decide (R = T) = r at *
      generalize gr.length = n1 at *
      generalize hr.length = n2 at *
      go_enter Try.func32, Try.ntmps32
      go_upto_region 1 with fail
      try simp only [hwB]
      go_wp2_with fail
      refine VG.out.mono ?_
      rintro e w2 ⟨rfl, k, rfl⟩
      go_wp2_with fail
      refine (VH.out k).mono ?_
      rintro e w3 ⟨rfl, k3, rfl⟩
      have bB : Below wB.heap.size wB (wB.drewN (k + k3)) := Ext.drawN (Ext.refl wB) (k + k3)
      have B3 := Ext.drawN B1 (k + k3)
      go_wp2_with fail
      refine (LA.out _ (GX.out _ bB)).mono ?_
      rintro e w4 ⟨A4, c4, vs4, rfl, M4, hb4⟩
      have bB4 := Ext.then_ bB hb4
      have B4 := Ext.then_ B3 hb4
      go_wp2_with fail
      refine (LB.out _ (GY.out _ bB4)).mono ?_
      rintro e w5 ⟨A5, c5, vs5, rfl, M5, hb5⟩
      have B5 := Lib.hid (Ext.then_ B4 hb5)
      have R4 := Lib.hid (M4.ext hb5).rd
      have R5 := Lib.hid M5.rd
      clear B4 B3 bB bB4 hb5 hb4 M4 M5 VG VH LA LB GX GY B1
      by_cases hnm : n = m
      · subst hnm
        have t0 : ((n : Int) != (n : Int)) = false := by simp
        have Y2 := Lib.hid (YES.out rfl)
        go_wp2_with fail
        go_loopw [7, 23] (fun _ i wr => ∃ k j : Nat, k ≤ n ∧ i = .int .i64 k ∧ wr = w5.drewN j ∧ Hid (∀ q, q < k → R.getD q [] = T.getD q [])) (fun _ i _ => n - (intOf i).toNat)
        case atStart => exact ⟨0, 0, Nat.zero_le _, rfl, rfl, fun q h => absurd h (Nat.not_lt_zero _)⟩
        case round =>
          obtain ⟨k, j, hk, rfl, hwr, hall⟩ := hrel
          by_cases hlt : k < n
          · have MA : MatRd wr _ R := hwr ▸ R4.out.drewN j
            have MB : MatRd wr _ T := hwr ▸ R5.out.drewN j
            have HW := Lib.hid hwr
            clear hwr
            obtain ⟨g, A1, c1, rfl, hg, k1, r1⟩ := CA.out wr _ MA k hlt
            obtain ⟨g', B1, d1, rfl, hg', k2, r2⟩ := CB.out wr _ MB k hlt
            have C := Lib.hid (fun j' => sameS_any A1 B1 c1 d1 _ _ (R.getD k []) (T.getD k []) (wr.drewN j') (r1.drewN j') (r2.drewN j') rfl rfl (HR.out k hlt) (HT.out k hlt))
            clear MA MB
            have NK := Lib.hid (NO.out k)
            have SU := Lib.hid (fun (h : R.getD k [] = T.getD k []) q (hq : q < k + 1) => (show R.getD q [] = T.getD q [] from by
              rcases Nat.lt_succ_iff_lt_or_eq.1 hq with h1 | h1
              · exact hall q h1
              · rw [h1]; exact h))
            clear hall r1 r2
            generalize R.getD k [] = x at *
            generalize T.getD k [] = y at *
            have i0 : (0 : Int) ≤ (k : Int) := by omega
            have i1 : (k : Int) < (n : Int) := by omega
            by_cases he : x = y
            · have S1 := Lib.hid (SU.out he)
              rw [decide_eq_true he] at C
              clear he SU NK
              go_wp2_with fail
              go_quiet ((go_at_call 61; exact Calls.quiet_of (C.out _)))
              go_wp2_with fail
              go_roundw
              case rel => exact ⟨k + 1, j + nq, by omega, by go_num, by rw [HW.out, World.drewN_drewN], S1.out⟩
              case measure => simp [intOf]; omega
            · have N1 := Lib.hid (NK.out he)
              rw [decide_eq_false he] at C
              clear he SU NK
              go_wp2_with fail
              go_quiet ((go_at_call 61; exact Calls.quiet_of (C.out _)))
              go_wp2_with fail
              go_ret
              exact ⟨ret_bool N1.out.symm, by rw [HW.out]; exact Ext.drawN (Ext.drawN B5.out j) nq⟩
          · obtain rfl : k = n := by omega
            have Y1 := Lib.hid (Y2.out hall)
            clear hall
            go_wp2_with fail
            go_ret
            exact ⟨ret_bool Y1.out.symm, by first | exact Ext.drawN B5.out j | (rw [hwr]; exact Ext.drawN B5.out j)⟩
      · have t0 : ((n : Int) != (m : Int)) = true := by simp; omega
        have N1 := Lib.hid (NE.out hnm)
        clear hnm
        go_wp2_with fail
        go_ret
        exact ⟨ret_bool N1.out.symm, B5.out⟩
end Go.Proofs.Ytkamkjbllmgifaa
