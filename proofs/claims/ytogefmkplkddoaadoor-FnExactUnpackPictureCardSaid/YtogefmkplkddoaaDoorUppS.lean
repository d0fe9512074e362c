/- Pictures read from their codes: the reference's. -/
import Derived.Test.YtogefmkplkddoaaDoorUppP
import Derived.Test.YtogefmkplkddoaaDoorUpp
namespace Go.Proofs.YtogefmkplkddoaaDoor
open Go.RowKit

/-- The pixels of the first k runs, and j of the next one. -/
def upS (ns : List Int) (k j : Nat) : List Bool := pfx ns k ++ List.replicate j (decide (k % 2 = 1))
theorem upS_len {ns : List Int} {k j : Nat} : (upS ns k j).length = (pfx ns k).length + j := by simp [upS]
theorem upS_more {ns : List Int} {k j : Nat} : upS ns k (j + 1) = upS ns k j ++ [decide (k % 2 = 1)] := by simp [upS, List.replicate_succ']
theorem upS_next {ns : List Int} {k : Nat} : upS ns k (ns.getD (k + 2) 0 - 1).toNat = upS ns (k + 1) 0 := by simp [upS, pfx]
theorem PicAt.made {w : World} {A : Option Addr} {c : Nat} {rows : List ByteArray} (h : Rd w A (strs rows)) : PicAt (w.alloc (.cells #[.slice A rows.length c] 36)) w.heap.size A c rows :=
  ⟨by simp, (Blk.made w _ _).cell 0, h.ext (Ext.more (Ext.refl w) _)⟩
theorem PicAt.boxed {w : World} {lo : Nat} {A : Option Addr} {c n : Nat} {rows : List ByteArray} (h : w.ownsRow lo 9 1 (.slice A n c) n (strs rows)) (hn : rows.length = n) :
    PicAt (w.alloc (.cells #[.slice A n c] 36)) w.heap.size A c rows ∧ Below w.heap.size w (w.alloc (.cells #[.slice A n c] 36)) := by
  subst hn
  exact ⟨PicAt.made (Rd.of_own h), Ext.more (Ext.refl w) _⟩
set_option maxRecDepth 100000 in
set_option maxHeartbeats 2000000 in
theorem upicS_any (s : ByteArray) (w : World) (hs : s.size ≤ 1000000000) : Calls Tryd.prog 21 #[.string s] w (UpRes w s) := by
  have RES : Hid (∀ (w' : World), Below w.heap.size w w' → uOk s = false → UpRes w s (.returned (.tuple #[.agg #[.slice none 0 0], .bool false])) w') := fun w' hb h => UpRes.no h hb
  obtain ⟨wB, hwB⟩ : ∃ wB, w.alloc (.cells #[.slice none 0 0] 36) = wB := ⟨_, rfl⟩
  have TB : Blk wB w.heap.size 36 #[.slice none 0 0] := by rw [← hwB]; exact Blk.made _ _ _
  have BB : Below w.heap.size w wB := by rw [← hwB]; exact Ext.more (Ext.refl _) _
  have NM := Lib.hid (l10numbers_any s wB hs)
  have HW := Lib.hid hwB
  have NB := Lib.hid (nmO_bd s)
  clear hwB
  cases hB : nmB s
  · have U : uOk s = false := by simp [uOk, uSz, hB]
    go_enter Tryd.func21, Tryd.ntmps21
    go_wp2_with fail
    try simp only [HW.out]
    refine NM.out.mono ?_
    rintro e w1 ⟨g, c, o, rfl, -, ho, hb1⟩
    have T1 := TB.under hb1 TB.lt
    have B1 := Ext.then_ BB hb1
    rw [hB]
    clear ho TB BB hb1
    have c0 := T1.cell 0
    have f0 := T1.free 0
    have cs := (T1.store 0 (.slice none 0 0)).cell 0
    simp at c0 cs
    have hl := T1.lt
    go_wp2_with fail
    refine bodyPost_ret (v := .tuple #[.agg #[.slice none 0 0], .bool false]) (by simp [results, Tryd.results21, go_sem, cs]) rfl (RES.out _ (B1.setCell (p := ⟨w.heap.size, 0, none⟩) (Nat.le_refl _) _) U)
  have UO : Hid (uOk s = ((decide (3 ≤ (nmO s).length) && (inB ((nmO s).getD 0 0) 1 16 && inB ((nmO s).getD 1 0) 1 16)) && (decide ((uL s).length = uW s * uH s) && decide (packB (uRows s) = s)))) := by rw [Hid, uOk, uSz, hB, Bool.true_and]
  go_enter Tryd.func21, Tryd.ntmps21
  go_wp2_with fail
  try simp only [HW.out]
  refine NM.out.mono ?_
  rintro e w1 ⟨g, c, o, rfl, hon, ho, hb1⟩
  have T1 := TB.under hb1 TB.lt
  have B1 := Ext.then_ BB hb1
  obtain rfl := hon hB
  rw [hB]
  clear TB BB hb1 hon NM
  obtain ⟨n, hn⟩ : ∃ n, (nmO s).length = n := ⟨_, rfl⟩
  have HN := Lib.hid hn
  rw [hn] at ho ⊢
  by_cases h3 : n < 3
  · have U : uOk s = false := by rw [UO.out, HN.out]; simp [show ¬ 3 ≤ n from by omega]
    have q : (n : Int) < 3 := by omega
    clear ho hn
    have c0 := T1.cell 0
    have f0 := T1.free 0
    have cs := (T1.store 0 (.slice none 0 0)).cell 0
    simp at c0 cs
    have hl := T1.lt
    go_wp2_with fail
    refine bodyPost_ret (v := .tuple #[.agg #[.slice none 0 0], .bool false]) (by simp [results, Tryd.results21, go_sem, cs]) rfl (RES.out _ (B1.setCell (p := ⟨w.heap.size, 0, none⟩) (Nat.le_refl _) _) U)
  have q : ¬ (n : Int) < 3 := by omega
  have CE : Hid (∀ V, Below w1.heap.size w1 V → ∀ j, j < n → V.cell? ⟨g, j, none⟩ = some (.int .i64 ((nmO s).getD j 0))) := fun V hV j hj => by
    refine (hV.cell (p := ⟨g, j, none⟩) (ho.lt g rfl).2).trans ?_
    rw [ho.cellAt j (by omega), List.getD_eq_getElem?_getD]
    have hj2 : j < (nmO s).length := by rw [HN.out]; exact hj
    simp [ints, hj2]
  have gl := (ho.lt g rfl).2
  obtain ⟨hcap, hcm⟩ := own_cap2 ho
  have hn9 : n ≤ 9223372036854775807 := Nat.le_trans hcm (by decide)
  clear hcap hcm
  have d0 := CE.out w1 (Ext.refl _) 0 (by omega)
  have d1 := CE.out w1 (Ext.refl _) 1 (by omega)
  have i0 : (0 : Int) < (n : Int) := by omega
  have i1 : (1 : Int) < (n : Int) := by omega
  have SA := Lib.hid (fun V => side_any ((nmO s).getD 0 0) V)
  have SB := Lib.hid (fun V => side_any ((nmO s).getD 1 0) V)
  clear ho hn
  cases hsa : inB ((nmO s).getD 0 0) 1 16
  · have U : uOk s = false := by rw [UO.out, hsa]; simp
    rw [hsa] at SA
    generalize (nmO s).getD 0 0 = a at *
    generalize (nmO s).getD 1 0 = b at *
    have c0 := T1.cell 0
    have f0 := T1.free 0
    have cs := (T1.store 0 (.slice none 0 0)).cell 0
    simp at c0 cs
    have hl := T1.lt
    go_wp2_with fail
    refine (SA.out _).mono ?_
    rintro e w' ⟨rfl, rfl⟩
    go_wp2_with fail
    refine bodyPost_ret (v := .tuple #[.agg #[.slice none 0 0], .bool false]) (by simp [results, Tryd.results21, go_sem, cs]) rfl (RES.out _ (B1.setCell (p := ⟨w.heap.size, 0, none⟩) (Nat.le_refl _) _) U)
  cases hsb : inB ((nmO s).getD 1 0) 1 16
  · have U : uOk s = false := by rw [UO.out, hsb]; simp
    rw [hsa] at SA
    rw [hsb] at SB
    generalize (nmO s).getD 0 0 = a at *
    generalize (nmO s).getD 1 0 = b at *
    have c0 := T1.cell 0
    have f0 := T1.free 0
    have cs := (T1.store 0 (.slice none 0 0)).cell 0
    simp at c0 cs
    have hl := T1.lt
    go_wp2_with fail
    refine (SA.out _).mono ?_
    rintro e w' ⟨rfl, rfl⟩
    go_wp2_with fail
    refine (SB.out _).mono ?_
    rintro e w' ⟨rfl, rfl⟩
    go_wp2_with fail
    refine bodyPost_ret (v := .tuple #[.agg #[.slice none 0 0], .bool false]) (by simp [results, Tryd.results21, go_sem, cs]) rfl (RES.out _ (B1.setCell (p := ⟨w.heap.size, 0, none⟩) (Nat.le_refl _) _) U)
  rw [hsa] at SA
  rw [hsb] at SB
  obtain ⟨a0, a1⟩ := inB_iff.1 hsa
  obtain ⟨b0, b1⟩ := inB_iff.1 hsb
  obtain ⟨W, hW⟩ := Int.eq_ofNat_of_zero_le (show 0 ≤ (nmO s).getD 0 0 by omega)
  obtain ⟨H, hH⟩ := Int.eq_ofNat_of_zero_le (show 0 ≤ (nmO s).getD 1 0 by omega)
  have UW : Hid (uW s = W ∧ uH s = H) := by rw [Hid, uW, uH, hW, hH]; exact ⟨rfl, rfl⟩
  rw [hW] at a0 a1 d0 SA
  rw [hH] at b0 b1 d1 SB
  have UO2 : Hid (uOk s = (decide ((uL s).length = W * H) && decide (packB (uRows s) = s))) := by
    rw [Hid, UO.out, hsa, hsb, UW.out.1, UW.out.2, HN.out]; simp [show 3 ≤ n from by omega]
  have hWH : W * H ≤ 256 := Nat.le_trans (Nat.mul_le_mul (show W ≤ 16 by omega) (show H ≤ 16 by omega)) (by decide)
  clear hsa hsb hW hH UO
  go_wp2_with fail
  refine (SA.out _).mono ?_
  rintro e w' ⟨rfl, rfl⟩
  go_wp2_with fail
  refine (SB.out _).mono ?_
  rintro e w' ⟨rfl, rfl⟩
  obtain ⟨w3, hw3⟩ : ∃ w3, w1.alloc (.cells #[] 4) = w3 := ⟨_, rfl⟩
  have O3 : w3.ownsRow w1.heap.size 4 1 (.slice (some ⟨w1.heap.size, 0, none⟩) 0 0) 0 (bools []) := by rw [← hw3]; exact World.ownsRow_lit (e := 4) (size := 1) w1 #[] 0 (Nat.le_refl _) (by decide) rfl
  have B3 : Below w1.heap.size w1 w3 := by rw [← hw3]; exact Ext.more (Ext.refl _) _
  have HW3 := Lib.hid hw3
  clear hw3
  have g3 : g < w3.heap.size := Nat.lt_of_lt_of_le gl B3.size
  have d0 := CE.out w3 B3 0 (by omega)
  have d1 := CE.out w3 B3 1 (by omega)
  have e0 : (nmO s).getD 0 0 = W := by have := UW.out.1; unfold uW at this; omega
  have e1 : (nmO s).getD 1 0 = H := by have := UW.out.2; unfold uH at this; omega
  rw [e0] at d0
  rw [e1] at d1
  have i0 : 0 < n := by omega
  have i1 : 1 < n := by omega
  have mW : IntKind.i64.wrap ((W : Int) * H) = ((W * H : Nat) : Int) := by rw [IntWalk.i64_in _ (by rw [← Int.natCast_mul]; omega)]; simp
  obtain ⟨N, hN⟩ : ∃ N, W * H = N := ⟨_, rfl⟩
  have hN2 := Lib.hid hN
  rw [hN] at mW hWH UO2
  clear hN
  go_wp2_with fail
  simp only [HW3.out]
  refine wp_region_held_quiet (fun U => Below w3.heap.size w3 U) (by kernel_rfl) (by kernel_rfl) (Ext.refl _).drew ?_
  have ne : Nonempty (HeldW (fun U => Below w3.heap.size w3 U)) := ⟨⟨w3, Ext.refl _⟩⟩
  have v0 : ∀ i : HeldW (fun U => Below w3.heap.size w3 U), i.w.cell? ⟨g, 0, none⟩ = _ := fun i => (i.h.cell (p := ⟨g, 0, none⟩) g3).trans d0
  have v1 : ∀ i : HeldW (fun U => Below w3.heap.size w3 U), i.w.cell? ⟨g, 1, none⟩ = _ := fun i => (i.h.cell (p := ⟨g, 1, none⟩) g3).trans d1
  repeat (go_big_quiet_step (fail))
  refine wpQuiet_nil ?_
  intro w4 hw'
  obtain ⟨⟨_, hb4⟩, rfl⟩ := hw'
  clear ne v0 v1
  have B4 := Ext.then_ B3 hb4
  have O4 := own_ext hb4 O3
  clear d0 d1 i0 i1 mW hb4 O3 B3 g3 e1
  have E0 := Lib.hid e0
  clear e0
  go_wp2_with fail
  go_loopw [6, 8, 9] (fun l i _ wr => ∃ (k p P cc : Nat) (A : Option Addr), p = 2 + k ∧ p ≤ n ∧ i = .int .i64 p ∧ P = (pfx (nmO s) k).length ∧ P ≤ N ∧ l = .slice A P cc ∧ wr.ownsRow w1.heap.size 4 1 (.slice A P cc) P (bools (pfx (nmO s) k)) ∧ Below w1.heap.size w1 wr) (fun _ i _ _ => ((n : Int) - intOf i).toNat)
  case atStart => exact ⟨0, 2, 0, 0, some ⟨w1.heap.size, 0, none⟩, rfl, by omega, rfl, rfl, Nat.zero_le _, rfl, O4, B4⟩
  case round =>
    obtain ⟨k, p, P, cc, A, hp, hpn, rfl, hP, le, rfl, ho, hb⟩ := hrel
    clear O4 B4
    by_cases hlt : p < n
    · have ck := CE.out wr hb p hlt
      obtain ⟨v0, v1⟩ := NB.out p
      have PL : Hid ((pfx (nmO s) (k + 1)).length = P + ((nmO s).getD p 0 - 1).toNat) := by rw [Hid, pfx_len, hp, hP, Nat.add_comm k 2]
      have PN : Hid (upS (nmO s) k ((nmO s).getD p 0 - 1).toNat = pfx (nmO s) (k + 1)) := by
        rw [Hid, hp, Nat.add_comm 2 k, upS_next]; simp [upS]
      have PM := Lib.hid (pfx_mono (nmO s) (k + 1) (n - 2 - (k + 1)))
      rw [show k + 1 + (n - 2 - (k + 1)) = n - 2 from by omega] at PM
      obtain ⟨v, hv⟩ : ∃ v, (nmO s).getD p 0 = v := ⟨_, rfl⟩
      rw [hv] at ck v0 v1 PL PN
      have HP := Lib.hid hP
      have HPK := Lib.hid hp
      clear hv hP hp
      have i0 : (0 : Int) ≤ (p : Int) := by omega
      have i1 : (p : Int) < (n : Int) := by omega
      have w1' : IntKind.i64.wrap (v - 1) = v - 1 := IntWalk.i64_in _ (by omega)
      have w2' : IntKind.i64.wrap ((N : Int) - P) = (N : Int) - P := IntWalk.i64_in _ (by omega)
      have T5 := T1.under hb T1.lt
      have B5 := Ext.then_ B1 hb
      by_cases hgt : (N : Int) - P < v - 1
      · have U : uOk s = false := by
          rw [UO2.out, uL, HN.out]
          have h1 := PM.out
          have h2 := PL.out
          rw [show decide ((pfx (nmO s) (n - 2)).length = N) = false from by simp; omega]; rfl
        have c0 := T5.cell 0
        have f0 := T5.free 0
        have cs := (T5.store 0 (.slice none 0 0)).cell 0
        simp at c0 cs
        have hl := T5.lt
        go_wp2_with fail
        refine bodyPost_ret (v := .tuple #[.agg #[.slice none 0 0], .bool false]) (by simp [results, Tryd.results21, go_sem, cs]) rfl (RES.out _ (B5.setCell (p := ⟨w.heap.size, 0, none⟩) (Nat.le_refl _) _) U)
      · have hz1 := hb.size
        go_wp2_with fail
        clear ck T5 B5 PM
        go_loopw [6, 9] (fun l z wi => ∃ (j Q cc : Nat) (r : Int) (A : Option Addr), j ≤ (v - 1).toNat ∧ Q = P + j ∧ r + j = v - 1 ∧ z = .int .i64 r ∧ l = .slice A Q cc ∧ wi.ownsRow w1.heap.size 4 1 (.slice A Q cc) Q (bools (upS (nmO s) k j)) ∧ Below w1.heap.size w1 wi) (fun _ z _ => (intOf z).toNat)
        case atStart => exact ⟨0, P, _, _, _, Nat.zero_le _, rfl, by omega, rfl, rfl, by simpa [upS] using ho, hb⟩
        case round =>
          obtain ⟨j, Q, cc, r, A, hj, hQ, hr, rfl, rfl, ho, hb⟩ := hrel
          have hz1 := hb.size
          by_cases hr0 : 0 < r
          · have HH : Hid (j ≤ (v - 1).toNat ∧ Q = P + j ∧ r + j = v - 1) := ⟨hj, hQ, hr⟩
            have hQN : Q ≤ N := by omega
            have rb : r ≤ 1000000000 := by omega
            have wr' : IntKind.i64.wrap (r - 1) = r - 1 := IntWalk.i64_in _ (by omega)
            have tm : (p : Int).tmod 2 = ((p % 2 : Nat) : Int) := by rw [Int.tmod_eq_emod_of_nonneg (by omega)]; omega
            have RB : Hid ((((p % 2 : Nat) : Int) == 1) = decide (k % 2 = 1)) := by
              have : p % 2 = k % 2 := by rw [HPK.out]; omega
              rw [Hid, this]
              rcases (show k % 2 = 0 ∨ k % 2 = 1 by omega) with h | h <;> rw [h] <;> rfl
            obtain ⟨q, hq⟩ : ∃ q, p % 2 = q := ⟨_, rfl⟩
            rw [hq] at tm RB
            clear hq hj hQ hr
            have US : Hid (bools (upS (nmO s) k (j + 1)) = bools (upS (nmO s) k j) ++ [.bool ((q : Int) == 1)]) := by
              rw [Hid, upS_more, RB.out]; simp [bools]
            go_wp2_with (at_builtin; refine wpList_app boolT (by rfl) _ _ (by rfl) w1.heap.size (.slice A Q cc) Q (bools (upS (nmO s) k j)) (by rfl) (ho.alloc _) wr.heap.size #[.bool ((q : Int) == 1)] (by rfl) (heap_alloc_new _ _) rfl (by simp [Value.oneCell']) (by omega) (by simp; omega) ?_; intro g3 cap3 w3 hown3 hgrow3 hat3 hlt3)
            go_roundw
            case rel =>
              refine ⟨j + 1, Q + 1, cap3, r - 1, some ⟨g3, 0, none⟩, by have := HH.out; omega, by have := HH.out.2.1; omega, by have := HH.out.2.2; omega, rfl, rfl, ?_, ?_⟩
              · rw [US.out]; exact hown3
              · exact (hb.alloc (by omega) _).grown hgrow3 (by simp; omega) (fun z hz => by have := (ho.lt z hz).1; omega)
            case measure => simp [intOf]; omega
          · obtain rfl : j = (v - 1).toNat := by omega
            rw [PN.out] at ho
            have PL2 : Hid (Q = (pfx (nmO s) (k + 1)).length) := by rw [Hid, PL.out, hQ]
            have hQN : Q ≤ N := by omega
            clear hQ hr hj
            go_wp2_with fail
            go_roundw
            case rel => exact ⟨k + 1, p + 1, Q, cc, A, by have := HPK.out; omega, by omega, by go_num, PL2.out, hQN, rfl, ho, hb⟩
            case measure => simp [intOf]; omega
    · have hk2 : uL s = pfx (nmO s) k := by rw [uL, HN.out, show n - 2 = k from by omega]
      rw [hk2] at UO2
      have hpe : p = n := by omega
      by_cases hPN : P = N
      · subst hPN
        have hL : (pfx (nmO s) k).length = W * H := by rw [hN2.out, hP]
        have MK := Lib.hid (make_any A cc W H (pfx (nmO s) k) wr (Rd.of_own ho) (by omega) (by omega) (by omega) hL)
        rw [hN2.out] at MK
        have UR : Hid (uRows s = rowsTo (frL (pfx (nmO s) k) W H) W H) := by rw [Hid, uRows, hk2, UW.out.1, UW.out.2]
        have okM := Lib.hid (told_ok (L := pfx (nmO s) k) (show 0 < W by omega) (show W ≤ 16 by omega) (show 0 < H by omega) (show H ≤ 16 by omega))
        have okU := Lib.hid (told_ok (L := frL (pfx (nmO s) k) W H) (show 0 < W by omega) (show W ≤ 16 by omega) (show 0 < H by omega) (show H ≤ 16 by omega))
        have UV : Hid (uOk s = true → uV s = uRows s) := fun h => (up_good h).1
        have TB1 := Lib.hid (told_bits (show 0 < H by omega) hL)
        have TW := Lib.hid (fun L => told_w (L := L) (W := W) (show 0 < H by omega))
        have hPd : decide (P = P) = true := by simp
        rw [← hP, hPd, Bool.true_and] at UO2
        obtain ⟨L, hLL⟩ : ∃ L, pfx (nmO s) k = L := ⟨_, rfl⟩
        rw [hLL] at MK UR okM okU TB1 ho
        have d0 := CE.out wr hb 0 (by omega)
        rw [E0.out] at d0
        have i0 : 0 < n := by omega
        have z1 := T1.lt
        have z2 := hb.size
        clear hPd hLL hL hk2 hP ho hp hlt hpn CE
        subst hpe
        go_wp2_with fail
        refine MK.out.mono ?_
        rintro e w5 ⟨A1, c1, rfl, ho1, hb5⟩
        have PB := PicAt.boxed ho1 (rowsTo_length _ _ _)
        have FS := fromS_any w5.heap.size A1 c1 (rowsTo L W H) _ PB.1 okM.out
        rw [TB1.out, TW.out, rowsTo_length] at FS
        have FS2 := Lib.hid FS
        have z5 := hb5.size
        have zM := PB.2.size
        have hbM := Lib.hid (Ext.then_ hb (Ext.then_ hb5 PB.2))
        clear FS MK ho1 hb5 PB d0 i0
        go_wp2_with fail
        refine FS2.out.mono ?_
        rintro e w6 ⟨A2, c2, rfl, ho2, hb6⟩
        have zB := Nat.lt_of_lt_of_le (Nat.lt_of_lt_of_le z1 (Nat.le_trans z2 z5)) zM
        have PB := PicAt.boxed ho2 (rowsTo_length _ _ _)
        have PK := Lib.hid (packS_any w6.heap.size A2 c2 _ _ PB.1 okU.out)
        rw [← UR.out] at PK ho2 PB
        have hH2 : (uRows s).length = H := by rw [UR.out, rowsTo_length]
        have z6 := hb6.size
        have hbN := Lib.hid (Ext.then_ hbM.out (Ext.then_ hb6 PB.2))
        have HPB := Lib.hid PB.1
        have OW := Lib.hid (own_ext PB.2 ho2)
        have zN := PB.2.size
        clear ho2 hb6 PB UR okM okU TB1 TW hbM FS2
        obtain ⟨Q, hQ⟩ : ∃ Q, packB (uRows s) = Q := ⟨_, rfl⟩
        rw [hQ] at PK UO2
        clear hQ
        go_wp2_with fail
        refine PK.out.mono ?_
        rintro e w7 ⟨rfl, hb7⟩
        have hbA := Ext.then_ hbN.out hb7
        have T8 := T1.under hbA T1.lt
        have B8 := Ext.then_ B1 hbA
        by_cases hq : Q = s
        · have U : uOk s = true := by rw [UO2.out]; simpa using hq
          have hE : (Q.toList == s.toList) = true := by rw [hq]; simp
          have PR : Hid (∀ (A' : Option Addr) (c' : Nat) (w' : World), w'.ownsRow w.heap.size 9 1 (.slice A' H c') H (strs (uRows s)) → Below w.heap.size w w' → UpRes w s (.returned (.tuple #[.agg #[.slice A' H c'], .bool true])) w') := by
            intro A' c' w' h1 h2
            unfold UpRes
            rw [UV.out U, U]
            refine ⟨A', c', ?_, ?_, h2⟩
            · rw [hH2]
            · rw [hH2]; exact h1
          have cB := (HPB.out.ext hb7).cell
          rw [hH2] at cB
          have hown := Lib.hid (own_ext hb7 OW.out)
          clear hq U UV hH2 UO2 OW HPB PK
          have c0 := T8.cell 0
          have f0 := T8.free 0
          have cs := (T8.store 0 (.slice A2 H c2)).cell 0
          simp at c0 cs
          have hl := T8.lt
          go_wp2_with fail
          refine bodyPost_ret (v := .tuple #[.agg #[.slice A2 H c2], .bool true]) (by simp [results, Tryd.results21, go_sem, cs]) rfl (PR.out A2 c2 _ ?_ ?_)
          · exact own_base (ownsRow_setCell_below hown.out (a := ⟨w.heap.size, 0, none⟩) zB _) (Nat.le_of_lt zB)
          · exact B8.setCell (p := ⟨w.heap.size, 0, none⟩) (Nat.le_refl _) _
        · have U : uOk s = false := by rw [UO2.out]; simpa using hq
          have hE : (Q.toList == s.toList) = false := by
            rw [ByteArray.toList_eq, ByteArray.toList_eq, beq_eq_false_iff_ne]
            intro h
            exact hq (ByteArray.ext (Array.ext' h))
          clear hq UV hH2 UO2 OW HPB PK
          have c0 := T8.cell 0
          have f0 := T8.free 0
          have cs := (T8.store 0 (.slice none 0 0)).cell 0
          simp at c0 cs
          have hl := T8.lt
          go_wp2_with fail
          refine bodyPost_ret (v := .tuple #[.agg #[.slice none 0 0], .bool false]) (by simp [results, Tryd.results21, go_sem, cs]) rfl (RES.out _ (B8.setCell (p := ⟨w.heap.size, 0, none⟩) (Nat.le_refl _) _) U)
      · have U : uOk s = false := by rw [UO2.out, ← hP, show decide (P = N) = false from by simpa using hPN]; rfl
        have hPN2 : ¬ (P : Int) = (N : Int) := by omega
        have T5 := T1.under hb T1.lt
        have B5 := Ext.then_ B1 hb
        clear hk2 hP
        subst hpe
        have c0 := T5.cell 0
        have f0 := T5.free 0
        have cs := (T5.store 0 (.slice none 0 0)).cell 0
        simp at c0 cs
        have hl := T5.lt
        go_wp2_with fail
        refine bodyPost_ret (v := .tuple #[.agg #[.slice none 0 0], .bool false]) (by simp [results, Tryd.results21, go_sem, cs]) rfl (RES.out _ (B5.setCell (p := ⟨w.heap.size, 0, none⟩) (Nat.le_refl _) _) U)
end Go.Proofs.YtogefmkplkddoaaDoor
