/- The law FnSortedSpots: its walk. -/
import Derived.Test.YtbkgmegpgnmlpaaSsD
import Derived.Test.YtbkgmegpgnmlpaaLawIvs
namespace Go.Proofs.Ytbkgmegpgnmlpaa
open Go.RowKit

theorem wrap64_succ {m m' : Nat} (h : m' = m + 1) (h2 : m ≤ 1000) : wrap64 ((m : Int) + 1) = (m' : Int) := by
  subst h
  exact IntWalk.wrap64_in _ ⟨by omega, by omega⟩
/-- The index of the spot ahead of the i-th. -/
def lastI (X : List Int) (i : Nat) : Int := if i = 0 then -1 else X.getD (i - 1) 0
set_option maxRecDepth 100000 in
set_option maxHeartbeats 4000000 in
theorem lawSs_any (A B : Option Addr) (n cA m cB : Nat) (l1 l2 : List Int) (w : World) (hA : BytesAt w A n l1) (hn : n ≤ maxLen) (hB : BytesAt w B m l2) (hm : m ≤ maxLen) :
    Calls Try.prog 13 #[.slice A n cA, .slice B m cB] w fun e w' => e = .returned (.bool true) ∧ Below w.heap.size w w' := by
  have LH := Lib.hid (fun W => long_any A B n cA m cB hn hm W)
  generalize (decide (48 < n) || decide (48 < m)) = b at LH
  cases b
  case true =>
    clear hA hB
    go_enter Try.func13, Try.ntmps13
    go_wp2_with fail
    refine (LH.out _).mono ?_
    rintro e w' ⟨rfl, rfl⟩
    go_wp2_with fail
    go_ret
    exact ⟨rfl, Ext.refl _⟩
  have A1 := Lib.hid (bAt_any B l2 m cB 0 4 w hB hm (by decide) (by decide) (by decide))
  have A2 := Lib.hid (bAt_any B l2 m cB 1 5 w hB hm (by decide) (by decide) (by decide))
  have A3 := Lib.hid (fun V (hb : Below w.heap.size w V) => bAt_any B l2 m cB 2 20 V (hB.ext hb) hm (by decide) (by decide) (by decide))
  have bc := atI_bd (l := l2) 0 (n := 4) (by decide)
  have bo := atI_bd (l := l2) 1 (n := 5) (by decide)
  have bg := atI_bd (l := l2) 2 (n := 20) (by decide)
  generalize atI l2 0 4 = c at A1 bc
  generalize atI l2 1 5 = o at A2 bo
  generalize atI l2 2 20 = gap at A3 bg
  obtain ⟨hc0, hc3⟩ := bc
  obtain ⟨h0, h4⟩ := bo
  obtain ⟨hg0, hg1⟩ := bg
  have hc3' : c ≤ 3 := by omega
  have h4' : o ≤ 4 := by omega
  have hok : curveOkB c o = true := curveOk_iff.2 ⟨⟨hc0, hc3'⟩, h0, h4'⟩
  obtain ⟨s, hs⟩ := Int.eq_ofNat_of_zero_le (show 0 ≤ side o by have := side_pos h0 h4'; omega)
  have hS := side_wrap h0 h4'
  have hS1 := side_pos h0 h4'
  have hS2 := side_le h0 h4'
  rw [hs] at hS hS1 hS2
  have SP := Lib.hid (r8Spots_any A n cA l1 s w hA hn (by omega) (by omega))
  have FIN := Lib.hid (fun (L : List (Int × Int)) (hL : ∀ p ∈ L, (0 ≤ p.1 ∧ p.1 < s) ∧ 0 ≤ p.2 ∧ p.2 < s) => (fun p hp => onB_iff.2 (by have := hL p hp; rw [hs]; omega) : ∀ p ∈ L, onB o p = true))
  have IXO := Lib.hid (fun x y V (h : onB o (x, y) = true) => by
    have h := onB_iff.1 h
    rw [hs] at h
    exact And.intro (indexOf_ok c o x y V hok h.1.1 (by rw [hs]; have := h.1.2; simp only at this; omega) h.2.1 (by rw [hs]; have := h.2.2; simp only at this; omega)) (show (0 ≤ x ∧ x ≤ 16) ∧ 0 ≤ y ∧ y ≤ 16 by simp only at h; omega))
  have HOK := Lib.hid hok
  clear hA hB hs hok
  go_enter Try.func13, Try.ntmps13
  go_wp2_with fail
  refine (LH.out _).mono ?_
  rintro e w' ⟨rfl, rfl⟩
  go_wp2_with fail
  refine (A1.out).mono ?_
  rintro e w' ⟨rfl, rfl⟩
  go_wp2_with fail
  refine (A2.out).mono ?_
  rintro e w' ⟨rfl, rfl⟩
  go_wp2_with fail
  refine (SP.out).mono ?_
  rintro e w1 ⟨g, cp, L, rfl, hL12, hLs, hO, hb1⟩
  have hL := FIN.out L hLs
  have hSp := own_spots hO rfl
  obtain ⟨q, hq⟩ : ∃ q, L.length = q := ⟨_, rfl⟩
  have hsok : sokB c o L = true := sokB_iff.2 ⟨HOK.out, by omega, hL⟩
  have hclo : clOk c o L gap = true := by rw [clOk, hsok, Bool.true_and, inB_iff]; omega
  have hlenR : (sSp c o L).length = q := by rw [sSp_len h0 h4' hL, hq]
  have hlenX : (sIx c o L).length = q := by rw [sIx_len h0 h4' hL, hq]
  have C2 := sortAlong_any c o g cp q L w1 hSp hq (by omega)
  rw [srtV_yes hsok, hsok, hlenR.symm] at C2
  have C3 : ∀ V, SpAt V g L → Calls Try.prog 41 #[.int .i64 c, .int .i64 o, .slice (some ⟨g, 0, none⟩) q cp] V fun e w' => e = .returned (.tuple #[.int .i64 (waySum (sSp c o L) (q - 1)), .bool true]) ∧ Below V.heap.size V w' := fun V hV => by
    have h := wayAlong_any c o g cp q L V hV hq (by omega)
    rw [hsok, wayA, if_pos hsok, hlenR] at h
    exact h
  have C4 : ∀ V, SpAt V g L → Calls Try.prog 43 #[.int .i64 c, .int .i64 o, .slice (some ⟨g, 0, none⟩) q cp, .int .i64 gap] V (IvRes V (prtTo gap (sIx c o L) (sIx c o L).length) true) := fun V hV => by
    have h := closeAlong_any c o gap g cp q L V hV hq (by omega)
    rw [hclo, clP, if_pos hclo] at h
    exact h
  have PF := Lib.hid (prt_facts gap (X := sIx c o L) (sIx_up c o L))
  have XB : Hid (∀ i, 0 ≤ (sIx c o L).getD i 0 ∧ (sIx c o L).getD i 0 ≤ 255) := fun i => by
    rw [List.getD_eq_getElem?_getD]
    cases e : (sIx c o L)[i]? with
    | none => simp
    | some x => have := sIx_bd h0 h4' (c := c) (L := L) x (List.mem_of_getElem? e); simp only [Option.getD_some]; omega
  have XU := Lib.hid (sIx_up c o L)
  have RX : Hid (∀ k, k < q → idxI c o (gp (sSp c o L) k).1 (gp (sSp c o L) k).2 = (sIx c o L).getD k 0 ∧ onB o (gp (sSp c o L) k) = true) := fun k hk => by
    have h := sSp_ix hc0 hc3' h0 h4' L (k := k) (by rw [hlenX]; exact hk)
    refine ⟨?_, h.2.1⟩
    rw [h.1, List.getD_eq_getElem?_getD, List.getElem?_eq_getElem (by rw [hlenX]; exact hk)]; rfl
  have PC := Lib.hid (fun p => (sSp_perm hc0 hc3' h0 h4' hL).count_eq p)
  have hsm := sSp_small h0 h4' (c := c) L
  have WB := Lib.hid (fun k => waySum_bd hsm k)
  have WS := Lib.hid (waySum_succ (sSp c o L))
  have W0 : Hid (waySum (sSp c o L) 0 = 0) := rfl
  have HLN := Lib.hid (And.intro hlenR hlenX)
  rw [hq]
  generalize sSp c o L = R at *
  generalize sIx c o L = X at *
  generalize hPg : prtTo gap X X.length = P at *
  rw [hlenR] at C2
  have HQ' := Lib.hid hq
  have C2h := Lib.hid C2
  have C3h := Lib.hid C3
  have C4h := Lib.hid C4
  clear hsok hclo hlenR hlenX hsm hPg hL hLs hO C2 C3 C4 hq
  obtain ⟨kq, hkq⟩ : ∃ kq : Nat → Nat, (fun i => (prtTo gap X i).length - 1) = kq := ⟨_, rfl⟩
  rw [hkq] at PF
  clear hkq
  go_wp2_with fail
  refine (C2h.out).mono ?_
  rintro e w2 ⟨A2, cl, rfl, ho2, hs2, hb2⟩
  obtain ⟨g2, rfl⟩ := hs2 rfl
  have hR2 := own_spots (by rw [HLN.out.1] at ho2; exact ho2) HLN.out.1
  have hSp2 := hSp.ext hb2
  have B2 := Ext.then_ hb1 hb2
  have eRq : R.length = q := HLN.out.1
  rw [eRq]
  clear ho2 hs2 hb1 hb2 hSp eRq
  go_wp2_with fail
  refine (C3h.out _ hSp2).mono ?_
  rintro e w3 ⟨rfl, hb3⟩
  have hSp3 := hSp2.ext hb3
  have hR3 := hR2.ext hb3
  have B3 := Ext.then_ B2 hb3
  clear hSp2 hR2 hb3 B2
  go_wp2_with fail
  refine (A3.out _ B3).mono ?_
  rintro e w' ⟨rfl, rfl⟩
  go_wp2_with fail
  refine (C4h.out _ hSp3).mono ?_
  rintro e w4 ⟨A4, c4, vs4, rfl, hM4, hb4⟩
  have HL4 := Lib.hid (hSp3.ext hb4)
  have HR4 := Lib.hid (hR3.ext hb4)
  have HM4 := Lib.hid hM4.rd
  have B4 := Ext.then_ B3 hb4
  clear hSp3 hR3 hb4 B3 hM4
  obtain ⟨pn, hpn⟩ : ∃ pn, P.length = pn := ⟨_, rfl⟩
  have HPN := Lib.hid hpn
  rw [hpn]
  clear hpn
  have hq12 : q ≤ 12 := by rw [← HQ'.out]; exact hL12
  have hpq : pn ≤ q := by have := PF.out.le; rw [HPN.out, HLN.out.2] at this; exact this
  have hp0 : q = 0 → pn = 0 := fun h => by have := PF.out.none (by rw [HLN.out.2]; exact h); rw [HPN.out] at this; exact this
  have hp1 : q ≠ 0 → pn ≠ 0 := fun h => by have := (PF.out.last (by rw [HLN.out.2]; omega)).1; rw [HPN.out] at this; omega
  have eB : (!(((pn : Int) == 0) == ((q : Int) == 0))) = false := by
    by_cases h : q = 0
    · rw [hp0 h, h]; rfl
    · have e1 : ((pn : Int) == 0) = false := by simp; exact hp1 h
      have e2 : ((q : Int) == 0) = false := by simp; exact h
      rw [e1, e2]; rfl
  go_wp2_with fail
  go_loopw [16, 17, 18, 19, 20, 21, 22, 23] (fun sv lv kv iv _ _ _ _ wr => ∃ t : Nat, t ≤ q ∧ iv = .int .i64 t ∧ sv = .int .i64 (waySum R (t - 1)) ∧ lv = .int .i64 (lastI X t) ∧ kv = .int .i64 ((kq t : Nat) : Int) ∧ Below w4.heap.size w4 wr) (fun _ _ _ iv _ _ _ _ _ => q - (intOf iv).toNat)
  case atStart => exact ⟨0, Nat.zero_le _, rfl, by rw [W0.out], rfl, by rw [PF.out.zero]; rfl, Ext.refl _⟩
  case round =>
    obtain ⟨t, hi, rfl, rfl, rfl, rfl, hb⟩ := hrel
    by_cases hlt : t < q
    · obtain ⟨p, hp⟩ : ∃ p, gp R t = p := ⟨_, rfl⟩
      have hR := HR4.out.ext hb
      have hiR : t < R.length := by rw [HLN.out.1]; exact hlt
      obtain ⟨c1, c2⟩ := hR.2 t hiR
      have lr := hR.1
      rw [gp_at hiR, hp] at c1 c2
      obtain ⟨ix, on⟩ := RX.out t hlt
      rw [hp] at ix on
      have pc := PC.out p
      have HP := Lib.hid hp
      clear hp hR hiR
      obtain ⟨px, py⟩ := p
      simp only at c1 c2 ix
      have pb := (IXO.out px py wr on).2
      have I1 := Lib.hid (fun V => (IXO.out px py V on).1)
      rw [ix] at I1
      have CN1 := Lib.hid (fun V (hV : Below w4.heap.size w4 V) => r8Count_any g2 cl q R px py V (HR4.out.ext hV) HLN.out.1 (by omega))
      have CN2 := Lib.hid (fun V (hV : Below w4.heap.size w4 V) => r8Count_any g cp q L px py V (HL4.out.ext hV) HQ'.out (by omega))
      rw [pc] at CN1
      generalize L.count (px, py) = z at CN1 CN2
      have xb := XB.out t
      have INN := PF.out.inn t (by rw [HLN.out.2]; exact hlt)
      have LAST : Hid (lastI X (t + 1) = X.getD t 0) := by rw [Hid, lastI, if_neg (by omega)]; rfl
      have hlo : ¬ X.getD t 0 < lastI X t := by
        rw [lastI]; split
        · omega
        · have := XU.out (t - 1) (by rw [HLN.out.2]; omega)
          rw [show t - 1 + 1 = t from by omega] at this
          omega
      have LB : -1 ≤ lastI X t ∧ lastI X t ≤ 255 := by
        rw [lastI]; split
        · omega
        · have := XB.out (t - 1); omega
      have FARF : Hid (0 < t → gap < X.getD t 0 - lastI X t → kq (t + 1) = kq t + 1 ∧ (gp P (kq t)).2 = lastI X t ∧ kq t < pn) := fun h0 hg => by
        obtain ⟨j, rfl⟩ : ∃ j, t = j + 1 := ⟨t - 1, by omega⟩
        rw [lastI, if_neg (by omega)] at hg ⊢
        have h := PF.out.far j (by rw [HLN.out.2]; exact hlt) hg
        have := (PF.out.inn j (by rw [HLN.out.2]; omega)).1
        rw [HPN.out] at this
        exact ⟨h.1, h.2, this⟩
      have NEARF : Hid (0 < t → ¬ gap < X.getD t 0 - lastI X t → kq (t + 1) = kq t) := fun h0 hg => by
        obtain ⟨j, rfl⟩ : ∃ j, t = j + 1 := ⟨t - 1, by omega⟩
        rw [lastI, if_neg (by omega)] at hg
        exact PF.out.near j (by rw [HLN.out.2]; exact hlt) hg
      have SUM : Hid (0 < t → waySum R t = waySum R (t - 1) + jmp (gp R (t - 1)) (gp R t)) := fun h0 => by
        obtain ⟨j, rfl⟩ : ∃ j, t = j + 1 := ⟨t - 1, by omega⟩
        exact WS.out j
      have SB := WB.out (t - 1)
      rw [HPN.out] at INN
      obtain ⟨in1, in2, in3⟩ := INN
      generalize X.getD t 0 = x at *
      generalize lastI X t = la at *
      generalize hsm : waySum R (t - 1) = sm at *
      have HSM := Lib.hid hsm
      clear hsm
      have i0 : (0 : Int) ≤ (t : Int) := by omega
      have i1 : (t : Int) < (q : Int) := by omega
      have zz : ((z : Int) != (z : Int)) = false := by simp
      have hlo2 : decide (x < la) = false := by simpa using hlo
      clear pc ix on
      go_wp2_with fail
      go_region_held3 (fun w' => w'.cell? ⟨g2, t * 2, none⟩ = some (.int .i64 px) ∧ w'.cell? ⟨g2, t * 2 + 1, none⟩ = some (.int .i64 py))
        (first | ((go_split_ands; refine ⟨?_, ?_⟩ <;> exact (hb'.cell (p := ⟨_, _, none⟩) (by first | omega | (simp; omega) | simp)).trans (by assumption))) | go_keep)
        (first
          | (go_at_call 18; refine (I1.out _).mono ?_; rintro e w6 ⟨rfl, hb6⟩; have hb' := hb6))
      have B6 := Ext.then_ (Ext.draw hb) hb6
      have hR6 := HR4.out.ext B6
      have htR : t < R.length := by rw [HLN.out.1]; exact hlt
      obtain ⟨d1, d2⟩ := hR6.2 t htR
      have lr6 := hR6.1
      rw [gp_at htR, HP.out] at d1 d2
      simp only at d1 d2
      clear hb6 hb' hR6 htR c1 c2 lr
      go_wp2_with fail
      refine wp_region_held_quiet (fun U => Below w6.heap.size w6 U) (by kernel_rfl) (by kernel_rfl) (Ext.refl _).drew ?_
      have ne : Nonempty (HeldW (fun U => Below w6.heap.size w6 U)) := ⟨⟨w6, Ext.refl _⟩⟩
      have v0 : ∀ i : HeldW (fun U => Below w6.heap.size w6 U), i.w.cell? ⟨g2, t * 2, none⟩ = _ := fun i => (i.h.cell (p := ⟨g2, t * 2, none⟩) lr6).trans d1
      have v1 : ∀ i : HeldW (fun U => Below w6.heap.size w6 U), i.w.cell? ⟨g2, t * 2 + 1, none⟩ = _ := fun i => (i.h.cell (p := ⟨g2, t * 2 + 1, none⟩) lr6).trans d2
      repeat (go_big_quiet_step ((first | (go_at_call_of 46 (Value.slice (some ⟨g2, 0, none⟩) q cl); exact Calls.above_of _ (CN1.out _ (Ext.then_ B6 (‹HeldW (fun U => Below w6.heap.size w6 U)›).h))) | (go_at_call_of 46 (Value.slice (some ⟨g, 0, none⟩) q cp); exact Calls.above_of _ (CN2.out _ (Ext.then_ B6 (‹HeldW (fun U => Below w6.heap.size w6 U)›).h))))))
      refine wpQuiet_nil ?_
      intro w7 hw'
      obtain ⟨⟨_, hb7⟩, rfl⟩ := hw'
      clear ne v0 v1
      have B7 := Ext.then_ B6 hb7
      clear B6 hb7 d1 d2 lr6 hb CN1 CN2 I1 zz hlo2
      have hkq : kq (t + 1) < P.length := by rw [HPN.out]; exact in1
      obtain ⟨p1, hp1⟩ : ∃ p1, (gp P (kq (t + 1))).1 = p1 := ⟨_, rfl⟩
      obtain ⟨p2, hp2⟩ : ∃ p2, (gp P (kq (t + 1))).2 = p2 := ⟨_, rfl⟩
      rw [hp1] at in2
      rw [hp2] at in3
      have HP1 := Lib.hid hp1
      have HP2 := Lib.hid hp2
      have KF : Hid (t = 0 → kq t = 0 ∧ kq (t + 1) = 0) := fun h => by rw [h]; exact ⟨PF.out.zero, PF.out.one⟩
      have RPt := Lib.hid (fun V (hV : Below w4.heap.size w4 V) => rows_part (HM4.out.ext hV) hkq)
      have RPm := Lib.hid (fun V (hV : Below w4.heap.size w4 V) (h : kq t < pn) => rows_part (HM4.out.ext hV) (k := kq t) (by rw [HPN.out]; exact h))
      clear hp1 hp2 hkq
      rw [HP1.out, HP2.out] at RPt
      have HKN : Hid (∃ m', kq (t + 1) = m') := ⟨_, rfl⟩
      obtain ⟨m', hm'⟩ := HKN.out
      obtain ⟨m, hmm⟩ : ∃ m, kq t = m := ⟨_, rfl⟩
      rw [hm'] at RPt KF FARF NEARF in1
      rw [hmm] at RPm KF FARF NEARF
      rw [hmm]
      have HM' := Lib.hid hm'
      have n1 : ¬ (pn : Int) ≤ (m' : Int) := by omega
      have n2 : ¬ x < p1 := by omega
      have n3 : ¬ p2 < x := by omega
      have n4 : (0 : Int) ≤ (m' : Int) := by omega
      have n5 : (m' : Int) < (pn : Int) := by omega
      clear hm' hmm HKN
      by_cases ht0 : t = 0
      · obtain ⟨e0, e1⟩ := KF.out ht0
        subst e0 e1
        have ez : Hid (waySum R t = sm) := by have := HSM.out; rw [ht0] at this; rw [Hid, ht0]; exact this
        obtain ⟨gP, gr, cy, eA, lgp, k1, lgr, k2, k3⟩ := RPt.out _ B7
        cases eA
        have nt : ¬ (0 : Int) < (t : Int) := by omega
        clear KF FARF NEARF RPt RPm SUM
        go_wp2_with fail
        go_roundw
        case rel => exact ⟨t + 1, by omega, by go_num, by rw [Nat.add_sub_cancel, ez.out], by rw [LAST.out], by rw [HM'.out]; rfl, B7⟩
        case measure => simp [intOf]; omega
      · obtain ⟨j, hj⟩ : ∃ j, j + 1 = t := ⟨t - 1, by omega⟩
        have hjR : j < R.length := by rw [HLN.out.1]; omega
        have htR : t < R.length := by rw [HLN.out.1]; exact hlt
        have hR7 := HR4.out.ext B7
        obtain ⟨d1, d2⟩ := hR7.2 t htR
        obtain ⟨d3, d4⟩ := hR7.2 j hjR
        have lr7 := hR7.1
        rw [gp_at htR, HP.out] at d1 d2
        rw [gp_at hjR] at d3 d4
        obtain ⟨-, on⟩ := RX.out j (by omega)
        have SU := SUM.out (by omega)
        rw [HP.out, show t - 1 = j from by omega] at SU
        generalize gp R j = pq at *
        obtain ⟨qx, qy⟩ := pq
        simp only at d1 d2 d3 d4
        have qb := (IXO.out qx qy wr on).2
        have FH := Lib.hid (fun W => farSpots_ok qx qy px py W qb.1.1 qb.1.2 qb.2.1 qb.2.2 pb.1.1 pb.1.2 pb.2.1 pb.2.2)
        have ab1 := absI_bd (n := qx - px) (by omega) (by omega)
        have ab2 := absI_bd (n := qy - py) (by omega) (by omega)
        have hdd : jmp (qx, qy) (px, py) = far0 qx qy px py := rfl
        have hdb : 0 ≤ far0 qx qy px py ∧ far0 qx qy px py ≤ 2000 := by unfold far0; omega
        rw [hdd] at SU
        generalize far0 qx qy px py = d at *
        have HSU := Lib.hid SU
        have nt : (0 : Int) < (t : Int) := by omega
        have j0 : (0 : Int) ≤ (j : Int) := by omega
        have j1 : (j : Int) < (q : Int) := by omega
        have ej : IntKind.i64.wrap ((t : Int) - 1) = (j : Int) := by rw [IntWalk.i64_in _ (by omega)]; omega
        have sb0 : 0 ≤ sm := SB.1
        have sb1 : sm ≤ 30000 := by omega
        obtain ⟨db0, db1⟩ := hdb
        obtain ⟨la0, la1⟩ := LB
        obtain ⟨xb0, xb1⟩ := xb
        clear SU hdd ab1 ab2 on hR7 htR hjR KF SUM hp0 hp1 eB hL12 pb qb SB hlo in2 in3 hg0 hg1 hc0 hc3 h0 h4 hc3' h4' hS hS1 hS2 LH A1 A2 A3 SP FIN IXO HOK C2h C3h C4h WB WS W0 XB XU RX PC HL4 HR4 HM4 hj
        go_wp2_with fail
        go_region_held3 (fun w' => w'.cell? ⟨g2, j * 2, none⟩ = some (.int .i64 qx) ∧ w'.cell? ⟨g2, j * 2 + 1, none⟩ = some (.int .i64 qy) ∧ w'.cell? ⟨g2, t * 2, none⟩ = some (.int .i64 px) ∧ w'.cell? ⟨g2, t * 2 + 1, none⟩ = some (.int .i64 py))
          (first | ((go_split_ands; refine ⟨?_, ?_, ?_, ?_⟩ <;> exact (hb'.cell (p := ⟨_, _, none⟩) (by first | omega | (simp; omega) | simp)).trans (by assumption))) | go_keep)
          (first
            | (go_at_call 19; refine (FH.out _).mono ?_; rintro e w8 ⟨rfl, hb8⟩; have hb' := hb8))
        have B8 := Ext.then_ (Ext.draw B7) hb8
        clear hb8 hb' d1 d2 d3 d4 lr7 B7 ej
        by_cases hg : gap < x - la
        · obtain ⟨f1, f2, f3⟩ := FARF.out (by have := nt; omega) hg
          obtain ⟨gP, gr0, cy0, eA, lgp0, y1, lgr0, y2, y3⟩ := RPm.out _ B8 f3
          cases eA
          rw [f2] at y3
          obtain ⟨gP', gr, cy, eA, lgp, k1, lgr, k2, k3⟩ := RPt.out _ B8
          cases eA
          subst f1
          have n6 : ¬ (pn : Int) ≤ (m : Int) + 1 := by omega
          have n7 : (0 : Int) ≤ (m : Int) + 1 := by omega
          have n8 : (m : Int) + 1 < (pn : Int) := by omega
          have m0 : (0 : Int) ≤ (m : Int) := by omega
          have m1 : (m : Int) < (pn : Int) := by omega
          have ll : (la != la) = false := by simp
          clear n1 n4 n5
          clear FARF NEARF RPt RPm f2
          go_wp2_with fail
          go_roundw
          case rel => exact ⟨t + 1, by omega, by go_num, by rw [Nat.add_sub_cancel, HSU.out], by rw [LAST.out], by rw [HM'.out]; go_num, B8⟩
          case measure => simp [intOf]; omega
        · obtain rfl := NEARF.out (by omega) (by omega)
          obtain ⟨gP, gr, cy, eA, lgp, k1, lgr, k2, k3⟩ := RPt.out _ B8
          cases eA
          clear FARF NEARF RPt RPm
          go_wp2_with fail
          go_roundw
          case rel => exact ⟨t + 1, by omega, by go_num, by rw [Nat.add_sub_cancel, HSU.out], by rw [LAST.out], by rw [HM'.out], B8⟩
          case measure => simp [intOf]; omega
    · obtain rfl : t = q := by omega
      have ww : (waySum R (t - 1) == waySum R (t - 1)) = true := by simp
      generalize waySum R (t - 1) = wz at *
      have HB := Ext.then_ B4 hb
      by_cases h0 : t = 0
      · have e1 : ((pn : Int) == 0) = true := by rw [hp0 h0]; rfl
        clear hp0 hp1
        go_wp2_with fail
        go_ret
        exact ⟨rfl, HB⟩
      · have hpf := PF.out.last (by rw [HLN.out.2]; omega)
        rw [HLN.out.2, HPN.out] at hpf
        obtain ⟨gP, gr, cy, eA, lgp, k1, lgr, k2, k3⟩ := rows_part (HM4.out.ext hb) (k := kq t) (by rw [HPN.out]; omega)
        cases eA
        have el : lastI X t = X.getD (t - 1) 0 := by rw [lastI, if_neg h0]
        rw [hpf.2, ← el] at k3
        have hm1 := hpf.1
        generalize kq t = m at *
        generalize lastI X t = la at *
        have e1 : ((pn : Int) == 0) = false := by simp; exact hp1 h0
        have e2 : IntKind.i64.wrap ((pn : Int) - 1) = (m : Int) := by rw [IntWalk.i64_in _ (by omega)]; omega
        have e3 : wrap64 ((pn : Int) - 1) = (m : Int) := by rw [IntWalk.wrap64_in _ ⟨by omega, by omega⟩]; omega
        have e4 : ((m : Int) == (m : Int)) = true := by simp
        have e5 : (la == la) = true := by simp
        have m0 : (0 : Int) ≤ (m : Int) := by omega
        have m1 : (m : Int) < (pn : Int) := by omega
        clear hpf el hp0 hp1
        go_wp2_with fail
        go_ret
        exact ⟨rfl, HB⟩
end Go.Proofs.Ytbkgmegpgnmlpaa
