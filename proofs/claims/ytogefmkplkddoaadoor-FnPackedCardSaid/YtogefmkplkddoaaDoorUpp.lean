/- Pictures read from their codes: the program's. -/
import Derived.Test.YtogefmkplkddoaaDoorUppP
import Derived.Test.YtogefmkplkddoaaDoorResP
import Derived.Deep.RegionHeld3
import Derived.Deep.CutRange
import Derived.Deep.DeepCutAuto
namespace Go.Proofs.YtogefmkplkddoaaDoor
open Go.RowKit

theorem own_cap2 {w : World} {base : Nat} {e : TypeId} {size g n cap : Nat} {xs : List Value} (h : w.ownsRow base e size (.slice (some ⟨g, 0, none⟩) n cap) n xs) : n ≤ cap ∧ n ≤ maxLen := by
  rcases h.2 with ⟨h, _⟩ | ⟨g', cap', cur, h, _, _, hc, hm, _⟩
  · simp at h
  · simp only [Value.slice.injEq] at h
    obtain ⟨-, -, rfl⟩ := h
    exact ⟨hc, Nat.le_trans hc hm⟩
/-- The pixels so far, and white ones behind. -/
def upB2 (ns : List Int) (k j N : Nat) : List Bool := pfx ns k ++ (List.replicate j (decide (k % 2 = 1)) ++ List.replicate (N - ((pfx ns k).length + j)) false)
theorem upB2_len {ns : List Int} {k j N : Nat} (h : (pfx ns k).length + j ≤ N) : (upB2 ns k j N).length = N := by simp [upB2]; omega
theorem upB2_set {ns : List Int} {k j N : Nat} (h : (pfx ns k).length + j < N) : (upB2 ns k j N).set ((pfx ns k).length + j) (decide (k % 2 = 1)) = upB2 ns k (j + 1) N := by
  unfold upB2
  rw [List.set_append_right _ _ (by omega), List.set_append_right _ _ (by simp), show (pfx ns k).length + j - (pfx ns k).length - (List.replicate j (decide (k % 2 = 1))).length = 0 from by simp]
  obtain ⟨m, hm⟩ : ∃ m, N - ((pfx ns k).length + j) = m + 1 := ⟨N - ((pfx ns k).length + j) - 1, by omega⟩
  rw [hm, show N - ((pfx ns k).length + (j + 1)) = m from by omega, List.replicate_succ, List.set_cons_zero, List.replicate_succ']
  simp
theorem upB2_next {ns : List Int} {k N : Nat} : upB2 ns k (ns.getD (k + 2) 0 - 1).toNat N = upB2 ns (k + 1) 0 N := by
  unfold upB2
  simp [pfx]
/-- A call has returned a picture read from a code. -/
def UpRes (w : World) (s : ByteArray) : Ending → World → Prop := PicRes w (uV s) (uOk s)
theorem up_bad {s : ByteArray} (h : uOk s = false) : uV s = [] ∧ uOk s = false := ⟨by rw [uV, h]; rfl, h⟩
theorem up_good {s : ByteArray} (h : uOk s = true) : uV s = uRows s ∧ uOk s = true := ⟨by rw [uV, if_pos h], h⟩
theorem UpRes.no {w w' : World} {s : ByteArray} (h : uOk s = false) (hb : Below w.heap.size w w') : UpRes w s (.returned (.tuple #[.agg #[.slice none 0 0], .bool false])) w' := by
  obtain ⟨h1, h2⟩ := up_bad h
  unfold UpRes
  rw [h1, h2]
  exact ⟨none, 0, rfl, World.ownsRow_nil _ _ _ _, hb⟩
theorem img_blank (V : World) (W H : Nat) : Img ((V.alloc (.cells (boolC (List.replicate (W * H) false)) 4)).alloc (.cells #[.int .i64 W, .int .i64 H, .slice (some ⟨V.heap.size, 0, none⟩) (W * H) (W * H)] 70)) (V.heap.size + 1) V.heap.size W H (List.replicate (W * H) false) := by
  refine ⟨?_, (Blk.made V _ _).more _, by simp⟩
  have := Blk.made (V.alloc (.cells (boolC (List.replicate (W * H) false)) 4)) 70 #[.int .i64 W, .int .i64 H, .slice (some ⟨V.heap.size, 0, none⟩) (W * H) (W * H)]
  simpa using this
set_option maxRecDepth 100000 in
set_option maxHeartbeats 2000000 in
theorem unpackPicture_any (s : ByteArray) (w : World) (hs : s.size ≤ 1000000000) : Calls Tryd.prog 22 #[.string s] w (UpRes w s) := by
  have RES : Hid (∀ (w' : World), Below w.heap.size w w' → uOk s = false → UpRes w s (.returned (.tuple #[.agg #[.slice none 0 0], .bool false])) w') := fun w' hb h => UpRes.no h hb
  obtain ⟨wB, hwB⟩ : ∃ wB, w.alloc (.cells #[.slice none 0 0] 36) = wB := ⟨_, rfl⟩
  have TB : Blk wB w.heap.size 36 #[.slice none 0 0] := by rw [← hwB]; exact Blk.made _ _ _
  have BB : Below w.heap.size w wB := by rw [← hwB]; exact Ext.more (Ext.refl _) _
  have NM := Lib.hid (numbers_any s wB hs)
  have HW := Lib.hid hwB
  have NB := Lib.hid (nmO_bd s)
  clear hwB
  cases hB : nmB s
  · have U : uOk s = false := by simp [uOk, uSz, hB]
    go_enter Tryd.func22, Tryd.ntmps22
    go_wp2_with fail
    try simp only [HW.out]
    refine NM.out.mono ?_
    rintro e w1 ⟨A, c, rfl, ho, hb1⟩
    have T1 := TB.under hb1 TB.lt
    have B1 := Ext.then_ BB hb1
    rw [hB]
    clear ho TB BB hb1
    go_wp2_with fail
    refine wp_region_held_quiet (fun U => Below w1.heap.size w1 U) (by kernel_rfl) (by kernel_rfl) (Ext.refl _).drew ?_
    have ne : Nonempty (HeldW (fun U => Below w1.heap.size w1 U)) := ⟨⟨w1, Ext.refl _⟩⟩
    repeat (go_big_quiet_step (fail))
    refine wpQuiet_nil ?_
    intro w2 hw'
    obtain ⟨⟨_, hb2⟩, rfl⟩ := hw'
    clear ne 
    have T2 := T1.under hb2 T1.lt
    have B2 := Ext.then_ B1 hb2
    clear T1 B1 hb2
    have c0 := T2.cell 0
    have f0 := T2.free 0
    have cs := (T2.store 0 (.slice none 0 0)).cell 0
    simp at c0 cs
    have hl := T2.lt
    go_wp2_with fail
    refine bodyPost_ret (v := .tuple #[.agg #[.slice none 0 0], .bool false]) (by simp [results, Tryd.results22, go_sem, cs]) rfl (RES.out _ (B2.setCell (p := ⟨w.heap.size, 0, none⟩) (Nat.le_refl _) _) U)
  have UO : Hid (uOk s = ((decide (3 ≤ (nmO s).length) && (inB ((nmO s).getD 0 0) 1 16 && inB ((nmO s).getD 1 0) 1 16)) && (decide ((uL s).length = uW s * uH s) && decide (packB (uRows s) = s)))) := by rw [Hid, uOk, uSz, hB, Bool.true_and]
  go_enter Tryd.func22, Tryd.ntmps22
  go_wp2_with fail
  try simp only [HW.out]
  refine NM.out.mono ?_
  rintro e w1 ⟨A, c, rfl, ho, hb1⟩
  have T1 := TB.under hb1 TB.lt
  have B1 := Ext.then_ BB hb1
  rw [hB]
  clear TB BB hb1
  obtain ⟨n, hn⟩ : ∃ n, (nmO s).length = n := ⟨_, rfl⟩
  have HN := Lib.hid hn
  rw [hn] at ho ⊢
  by_cases h3 : n < 3
  · have U : uOk s = false := by rw [UO.out, HN.out]; simp [show ¬ 3 ≤ n from by omega]
    have q : (n : Int) < 3 := by omega
    clear ho hn
    go_wp2_with fail
    refine wp_region_held_quiet (fun U => Below w1.heap.size w1 U) (by kernel_rfl) (by kernel_rfl) (Ext.refl _).drew ?_
    have ne : Nonempty (HeldW (fun U => Below w1.heap.size w1 U)) := ⟨⟨w1, Ext.refl _⟩⟩
    repeat (go_big_quiet_step (fail))
    refine wpQuiet_nil ?_
    intro w2 hw'
    obtain ⟨⟨_, hb2⟩, rfl⟩ := hw'
    clear ne 
    have T2 := T1.under hb2 T1.lt
    have B2 := Ext.then_ B1 hb2
    clear T1 B1 hb2
    have c0 := T2.cell 0
    have f0 := T2.free 0
    have cs := (T2.store 0 (.slice none 0 0)).cell 0
    simp at c0 cs
    have hl := T2.lt
    go_wp2_with fail
    refine bodyPost_ret (v := .tuple #[.agg #[.slice none 0 0], .bool false]) (by simp [results, Tryd.results22, go_sem, cs]) rfl (RES.out _ (B2.setCell (p := ⟨w.heap.size, 0, none⟩) (Nat.le_refl _) _) U)
  have q : ¬ (n : Int) < 3 := by omega
  have q2 : decide ((n : Int) < 3) = false := by simpa using q
  obtain ⟨g, c', hg⟩ := own_someB ho (by intro h; simp only [Value.slice.injEq] at h; omega)
  simp only [Value.slice.injEq] at hg
  obtain ⟨rfl, -, rfl⟩ := hg
  have CE : Hid (∀ V, Below w1.heap.size w1 V → ∀ j, j < n → V.cell? ⟨g, j, none⟩ = some (.int .i64 ((nmO s).getD j 0))) := fun V hV j hj => by
    refine (hV.cell (p := ⟨g, j, none⟩) (ho.lt g rfl).2).trans ?_
    rw [ho.cellAt j (by omega), List.getD_eq_getElem?_getD]
    have hj2 : j < (nmO s).length := by rw [HN.out]; exact hj
    simp [ints, hj2]
  have gl := (ho.lt g rfl).2
  obtain ⟨hcap, hcm⟩ := own_cap2 ho
  have hn9 : n ≤ 9223372036854775807 := Nat.le_trans hcm (by decide)
  have hc2 : ¬ c = 2 := by omega
  clear hcap hcm
  have d0 := CE.out w1 (Ext.refl _) 0 (by omega)
  have d1 := CE.out w1 (Ext.refl _) 1 (by omega)
  have i0 : (0 : Int) < (n : Int) := by omega
  have i1 : (1 : Int) < (n : Int) := by omega
  have SZ := Lib.hid (fun V => sizeOk_any ((nmO s).getD 0 0) ((nmO s).getD 1 0) V)
  clear ho hn
  cases hsz : (inB ((nmO s).getD 0 0) 1 16 && inB ((nmO s).getD 1 0) 1 16)
  · have U : uOk s = false := by rw [UO.out, hsz]; simp
    rw [hsz] at SZ
    generalize (nmO s).getD 0 0 = a at *
    generalize (nmO s).getD 1 0 = b at *
    go_wp2_with fail
    refine wp_region_held_quiet (fun U => Below w1.heap.size w1 U) (by kernel_rfl) (by kernel_rfl) (Ext.refl _).drew ?_
    have ne : Nonempty (HeldW (fun U => Below w1.heap.size w1 U)) := ⟨⟨w1, Ext.refl _⟩⟩
    have v0 : ∀ i : HeldW (fun U => Below w1.heap.size w1 U), i.w.cell? ⟨g, 0, none⟩ = _ := fun i => (i.h.cell (p := ⟨g, 0, none⟩) gl).trans d0
    have v1 : ∀ i : HeldW (fun U => Below w1.heap.size w1 U), i.w.cell? ⟨g, 1, none⟩ = _ := fun i => (i.h.cell (p := ⟨g, 1, none⟩) gl).trans d1
    repeat (go_big_quiet_step ((go_at_call 49; exact Calls.above_of _ (Calls.lift (SZ.out _)))))
    refine wpQuiet_nil ?_
    intro w2 hw'
    obtain ⟨⟨_, hb2⟩, rfl⟩ := hw'
    clear ne v0 v1
    have T2 := T1.under hb2 T1.lt
    have B2 := Ext.then_ B1 hb2
    clear T1 B1 hb2
    have c0 := T2.cell 0
    have f0 := T2.free 0
    have cs := (T2.store 0 (.slice none 0 0)).cell 0
    simp at c0 cs
    have hl := T2.lt
    go_wp2_with fail
    refine bodyPost_ret (v := .tuple #[.agg #[.slice none 0 0], .bool false]) (by simp [results, Tryd.results22, go_sem, cs]) rfl (RES.out _ (B2.setCell (p := ⟨w.heap.size, 0, none⟩) (Nat.le_refl _) _) U)
  rw [hsz] at SZ
  obtain ⟨sa, sb⟩ := (Bool.and_eq_true _ _).mp hsz
  obtain ⟨a0, a1⟩ := inB_iff.1 sa
  obtain ⟨b0, b1⟩ := inB_iff.1 sb
  obtain ⟨W, hW⟩ := Int.eq_ofNat_of_zero_le (show 0 ≤ (nmO s).getD 0 0 by omega)
  obtain ⟨H, hH⟩ := Int.eq_ofNat_of_zero_le (show 0 ≤ (nmO s).getD 1 0 by omega)
  have UW : Hid (uW s = W ∧ uH s = H) := by rw [Hid, uW, uH, hW, hH]; exact ⟨rfl, rfl⟩
  rw [hW] at a0 a1 d0 SZ
  rw [hH] at b0 b1 d1 SZ
  have UO2 : Hid (uOk s = (decide ((uL s).length = W * H) && decide (packB (uRows s) = s))) := by
    rw [Hid, UO.out, hsz, UW.out.1, UW.out.2, HN.out]; simp [show 3 ≤ n from by omega]
  have hWH : W * H ≤ 256 := Nat.le_trans (Nat.mul_le_mul (show W ≤ 16 by omega) (show H ≤ 16 by omega)) (by decide)
  clear hsz sa sb hW hH UO
  go_wp2_with fail
  refine wp_region_held_quiet (fun U => Below w1.heap.size w1 U) (by kernel_rfl) (by kernel_rfl) (Ext.refl _).drew ?_
  have ne : Nonempty (HeldW (fun U => Below w1.heap.size w1 U)) := ⟨⟨w1, Ext.refl _⟩⟩
  have v0 : ∀ i : HeldW (fun U => Below w1.heap.size w1 U), i.w.cell? ⟨g, 0, none⟩ = _ := fun i => (i.h.cell (p := ⟨g, 0, none⟩) gl).trans d0
  have v1 : ∀ i : HeldW (fun U => Below w1.heap.size w1 U), i.w.cell? ⟨g, 1, none⟩ = _ := fun i => (i.h.cell (p := ⟨g, 1, none⟩) gl).trans d1
  repeat (go_big_quiet_step ((go_at_call 49; exact Calls.above_of _ (Calls.lift (SZ.out _)))))
  refine wpQuiet_nil ?_
  intro w2 hw'
  obtain ⟨⟨_, hb2⟩, rfl⟩ := hw'
  clear ne v0 v1
  have T2 := T1.under hb2 T1.lt
  have B2 := Ext.then_ B1 hb2
  have d0 := CE.out w2 hb2 0 (by omega)
  have d1 := CE.out w2 hb2 1 (by omega)
  have CE2 : Hid (∀ V, Below w2.heap.size w2 V → ∀ j, j < n → V.cell? ⟨g, j, none⟩ = some (.int .i64 ((nmO s).getD j 0))) := fun V hV j hj => CE.out V (Ext.then_ hb2 hV) j hj
  have g2 : g < w2.heap.size := Nat.lt_of_lt_of_le gl hb2.size
  have e0 : (nmO s).getD 0 0 = W := by have := UW.out.1; unfold uW at this; omega
  have e1 : (nmO s).getD 1 0 = H := by have := UW.out.2; unfold uH at this; omega
  rw [e0] at d0
  rw [e1] at d1
  clear T1 B1 hb2 CE gl q2 SZ
  have BL := Lib.hid (fun V => blank_any W H V (by omega) (by omega))
  have i2 : (0 : Int) ≤ 0 := Int.le_refl _
  have i3 : (0 : Int) ≤ 1 := by decide
  have i0 : 0 < n := by omega
  have i1 : 1 < n := by omega
  go_wp2_with fail
  go_region_held3 (fun w' => w'.cell? ⟨g, 0, none⟩ = some (.int .i64 W) ∧ w'.cell? ⟨g, 1, none⟩ = some (.int .i64 H))
    (first | ((go_split_ands; refine ⟨?_, ?_⟩ <;> exact (hb'.cell (p := ⟨_, _, none⟩) (by first | omega | (simp; omega) | simp)).trans (by assumption))) | go_keep)
    (first
      | (go_at_call 50; refine (BL.out _).mono ?_; rintro e w4 ⟨rfl, hw4⟩; have hb' := (by rw [← hw4]; exact Ext.more (Ext.more (Ext.refl _) _) _ : Below w2.drew.heap.size w2.drew w4)))
  have IM0 : Img w4 (w2.heap.size + 1) w2.heap.size W H (List.replicate (W * H) false) := by rw [← hw4]; exact img_blank w2.drew W H
  have hb4 := Ext.undraw hb'
  have z4 := B2.size
  obtain ⟨m, hm⟩ : ∃ m, n - 2 = m := ⟨_, rfl⟩
  have em : (n : Int) - 2 = (m : Int) := by omega
  have UL : Hid (uL s = pfx (nmO s) m) := by rw [Hid, uL, HN.out, hm]
  have P0 : Hid (upB2 (nmO s) 0 0 (W * H) = List.replicate (W * H) false) := by simp [Hid, upB2, pfx]
  have n2 : (2 : Int) ≤ (n : Int) := by omega
  have w2n : (2 : Int) ≤ (n : Int) := by omega
  clear hb' hw4 d0 d1 i0 i1 i2 i3 BL e0 e1 q
  go_wp2_with fail
  go_loopw [7, 8, 9, 44, 62] (fun a _ _ i _ wr => ∃ k : Nat, k ≤ m ∧ i = .int .i64 k ∧ a = .int .i64 ((pfx (nmO s) k).length) ∧ Img wr (w2.heap.size + 1) w2.heap.size W H (upB2 (nmO s) k 0 (W * H)) ∧ Below w2.heap.size w2 wr) (fun _ _ _ i _ _ => ((m : Int) - intOf i).toNat)
  case atStart => exact ⟨0, Nat.zero_le _, rfl, rfl, by rw [P0.out]; exact IM0, hb4⟩
  case round =>
    obtain ⟨k, hk, rfl, rfl, hI, hb⟩ := hrel
    clear IM0 hb4 P0
    have le : (pfx (nmO s) k).length ≤ W * H := by have := hI.len; simp [upB2] at this; omega
    obtain ⟨N, hN⟩ : ∃ N, W * H = N := ⟨_, rfl⟩
    have T5 := T2.under hb T2.lt
    have B5 := Ext.then_ B2 hb
    by_cases hlt : k < m
    · have ck := CE2.out wr hb (2 + k) (by omega)
      obtain ⟨v0, v1⟩ := NB.out (2 + k)
      have PL : Hid ((pfx (nmO s) (k + 1)).length = (pfx (nmO s) k).length + ((nmO s).getD (2 + k) 0 - 1).toNat) := by rw [Hid, pfx_len, Nat.add_comm k 2]
      have PN : Hid (upB2 (nmO s) k ((nmO s).getD (2 + k) 0 - 1).toNat (W * H) = upB2 (nmO s) (k + 1) 0 (W * H)) := by rw [Hid, Nat.add_comm 2 k, upB2_next]
      have PM := Lib.hid (pfx_mono (nmO s) (k + 1) (m - (k + 1)))
      rw [show k + 1 + (m - (k + 1)) = m from by omega] at PM
      have c2 := hI.hdr.cell 2
      simp at c2
      rw [hN] at c2 le hWH UO2
      have US : Hid (∀ P, P = (pfx (nmO s) k).length → ∀ j, P + j < N → (upB2 (nmO s) k j N).set (P + j) (decide (k % 2 = 1)) = upB2 (nmO s) k (j + 1) N) := fun P hP j hj => by subst hP; exact upB2_set hj
      obtain ⟨v, hv⟩ : ∃ v, (nmO s).getD (2 + k) 0 = v := ⟨_, rfl⟩
      obtain ⟨P, hP⟩ : ∃ P, (pfx (nmO s) k).length = P := ⟨_, rfl⟩
      rw [hv] at ck v0 v1 PL PN
      rw [hP] at PL le ⊢
      have HP := Lib.hid hP
      have hNH := Lib.hid hN
      clear hv hP hN
      have i0 : (0 : Int) ≤ (k : Int) := by omega
      have i1 : (k : Int) < (n : Int) - 2 := by omega
      have w1' : IntKind.i64.wrap (v - 1) = v - 1 := IntWalk.i64_in _ (by omega)
      have w2' : IntKind.i64.wrap ((N : Int) - P) = (N : Int) - P := IntWalk.i64_in _ (by omega)
      by_cases hgt : (N : Int) - P < v - 1
      · have U : uOk s = false := by
          rw [UO2.out, UL.out]
          have h1 := PM.out
          have h2 := PL.out
          rw [show decide ((pfx (nmO s) m).length = N) = false from by simp; omega]; rfl
        have cs := (T5.store 0 (.slice none 0 0)).cell 0
        have c0 := T5.cell 0
        have f0 := T5.free 0
        simp at c0 cs
        have hl := T5.lt
        go_wp2_with fail
        refine bodyPost_ret (v := .tuple #[.agg #[.slice none 0 0], .bool false]) (by simp [results, Tryd.results22, go_sem, cs]) rfl (RES.out _ (B5.setCell (p := ⟨w.heap.size, 0, none⟩) (Nat.le_refl _) _) U)
      · go_wp2_with fail
        clear ck c2 T5 B5
        go_loopw [7, 62] (fun a z wi => ∃ j q : Nat, j ≤ (v - 1).toNat ∧ q = P + j ∧ z = .int .i64 j ∧ a = .int .i64 q ∧ Img wi (w2.heap.size + 1) w2.heap.size W H (upB2 (nmO s) k j (W * H)) ∧ Below w2.heap.size w2 wi) (fun _ z _ => (v - intOf z).toNat)
        case atStart => exact ⟨0, P, Nat.zero_le _, rfl, rfl, rfl, hI, hb⟩
        case round =>
          obtain ⟨j, q, hj, hq, rfl, rfl, hI, hb⟩ := hrel
          by_cases hjl : (j : Int) < v - 1
          · have hqN : q < N := by omega
            have US2 := US.out P HP.out.symm j (by omega)
            rw [← hq] at US2
            have c2 := hI.hdr.cell 2
            simp at c2
            have hlN : (upB2 (nmO s) k j (W * H)).length = N := by rw [← hNH.out]; exact hI.len
            have cq := (hI.bits.cell q).trans (boolC_get _ q (by omega))
            have fq := hI.bits.free q
            generalize (upB2 (nmO s) k j (W * H))[q] = bq at *
            have hput := hI.put q (decide (k % 2 = 1))
            have hbp := hb.setCell (p := ⟨w2.heap.size, q, none⟩) (Nat.le_refl _) (.bool (decide (k % 2 = 1)))
            rw [hNH.out] at c2 hput
            rw [US2] at hput
            rw [← hNH.out] at hput
            have HPT := Lib.hid hput
            have HBP := Lib.hid hbp
            have q0 : (0 : Int) ≤ (q : Int) := by omega
            have q1 : (q : Int) < (N : Int) := by omega
            have tm : (k : Int).tmod 2 = ((k % 2 : Nat) : Int) := by rw [Int.tmod_eq_emod_of_nonneg (by omega)]; omega
            have HQ := Lib.hid hq
            clear hput hbp US2 hlN hq
            obtain ⟨r, hr⟩ : ∃ r, k % 2 = r := ⟨_, rfl⟩
            rw [hr] at tm HPT HBP
            have hr2 : r < 2 := by omega
            rw [show decide (r = 1) = ((r : Int) == 1) from by rcases (show r = 0 ∨ r = 1 by omega) with rfl | rfl <;> rfl] at HPT HBP
            clear hr
            go_wp2_with fail
            go_roundw
            case rel => exact ⟨j + 1, q + 1, by omega, by have := HQ.out; omega, by go_num, by go_num, HPT.out, HBP.out⟩
            case measure => simp [intOf]; omega
          · obtain rfl : j = (v - 1).toNat := by omega
            rw [PN.out] at hI
            have PL2 : Hid ((pfx (nmO s) (k + 1)).length = q) := by rw [Hid, PL.out, hq]
            clear hq
            go_wp2_with fail
            go_roundw
            case rel => exact ⟨k + 1, by omega, by go_num, by rw [PL2.out], hI, hb⟩
            case measure => simp [intOf]; omega
    · obtain rfl : k = m := by omega
      have FR := Lib.hid (fun V (h : Img V (w2.heap.size + 1) w2.heap.size W H (upB2 (nmO s) k 0 (W * H))) => from_any (w2.heap.size + 1) w2.heap.size W H _ V h (by omega) (by omega))
      have HI := Lib.hid hI
      have hN2 := Lib.hid hN
      clear hk hlt hN hI
      go_wp2_with fail
      refine (FR.out _ HI.out).mono ?_
      rintro e w5 ⟨⟨p, g', rfl, hI5⟩, hb5⟩
      have T6 := T5.under hb5 T5.lt
      have B6 := Ext.then_ B5 hb5
      have iI := HI.out.hdr
      have c2 := (iI.under hb5 iI.lt).cell 2
      simp at c2
      rw [hN2.out] at c2 hWH UO2 le
      have p2 := (iI.under hb5 iI.lt).lt
      rw [UL.out] at UO2
      have BQ : Hid (∀ P, (pfx (nmO s) k).length = P → P = N → uRows s = rowsTo (frL (upB2 (nmO s) k 0 (W * H)) W H) W H ∧ packL (codeB W ++ codeB H) (colR (resL (frL (upB2 (nmO s) k 0 (W * H)) W H) W H)) = packB (uRows s)) := by
        intro P hP hPN
        have e1 : upB2 (nmO s) k 0 (W * H) = uL s := by
          rw [UL.out, upB2, hN2.out, hP, hPN]; simp
        have e2 : uRows s = rowsTo (frL (upB2 (nmO s) k 0 (W * H)) W H) W H := by rw [uRows, e1, UW.out.1, UW.out.2]
        refine ⟨e2, ?_⟩
        rw [e2, packB, told_w (by omega), told_bits (by omega) (frL_length _ _ _), rowsTo_length]
      have UV : Hid (uOk s = true → uV s = uRows s) := fun h => (up_good h).1
      have PK := Lib.hid (fun V (hb : Below w5.heap.size w5 V) => packed_any p g' W H _ V (hI5.ext hb) (by omega) (by omega) (by omega) (by omega))
      have TL := Lib.hid (fun V (hb : Below w5.heap.size w5 V) => told_any p g' W H _ V (hI5.ext hb) (by omega) (by omega))
      clear FR HI hI5 iI hb5 T5 B5 HN CE2 NM
      obtain ⟨P, hP⟩ : ∃ P, (pfx (nmO s) k).length = P := ⟨_, rfl⟩
      have BP := Lib.hid (BQ.out P hP)
      rw [hP] at UO2 le ⊢
      clear hP BQ
      by_cases hPN : P = N
      · obtain ⟨e1, e2⟩ := BP.out hPN
        have hPN2 : (P : Int) = (N : Int) := by omega
        rw [e2] at PK
        rw [← e1] at TL
        have hH2 : (uRows s).length = H := by rw [e1, rowsTo_length]
        have hPd : decide (P = N) = true := by simpa using hPN
        rw [hPd, Bool.true_and] at UO2
        clear BP e1 e2 hPd hPN le
        obtain ⟨Q, hQ⟩ : ∃ Q, packB (uRows s) = Q := ⟨_, rfl⟩
        rw [hQ] at PK UO2
        clear hQ
        by_cases hq : Q = s
        · have U : uOk s = true := by rw [UO2.out]; simpa using hq
          have PR : Hid (∀ (A' : Option Addr) (c' : Nat) (w' : World), w'.ownsRow w.heap.size 9 1 (.slice A' H c') H (strs (uRows s)) → Below w.heap.size w w' → UpRes w s (.returned (.tuple #[.agg #[.slice A' H c'], .bool true])) w') := by
            intro A' c' w' h1 h2
            unfold UpRes
            rw [UV.out U, U]
            refine ⟨A', c', ?_, ?_, h2⟩
            · rw [hH2]
            · rw [hH2]; exact h1
          have hE : (Q.toList == s.toList) = true := by rw [hq]; simp
          clear hq U UV hH2 UO2
          go_wp2_with fail
          refine (PK.out _ (Ext.refl _)).mono ?_
          rintro e w6 ⟨rfl, hb6⟩
          have TL2 := Lib.hid (TL.out _ hb6)
          have T7 := T6.under hb6 T6.lt
          have B7 := Ext.then_ B6 hb6
          have h7 := T7.lt
          clear T6 B6 TL PK
          go_wp2_with fail
          refine TL2.out.mono ?_
          rintro e w7 ⟨A', c', rfl, hown, hb7⟩
          have T8 := T7.under hb7 T7.lt
          have B8 := Ext.then_ B7 hb7
          have c0 := T8.cell 0
          have f0 := T8.free 0
          have cs := (T8.store 0 (.slice A' H c')).cell 0
          simp at c0 cs
          have hl := T8.lt
          go_wp2_with fail
          refine bodyPost_ret (v := .tuple #[.agg #[.slice A' H c'], .bool true]) (by simp [results, Tryd.results22, go_sem, cs]) rfl (PR.out A' c' _ ?_ ?_)
          · exact own_base (ownsRow_setCell_below hown (a := ⟨w.heap.size, 0, none⟩) h7 _) (by omega)
          · exact B8.setCell (p := ⟨w.heap.size, 0, none⟩) (Nat.le_refl _) _
        · have U : uOk s = false := by rw [UO2.out]; simpa using hq
          have hE : (Q.toList == s.toList) = false := by
            rw [ByteArray.toList_eq, ByteArray.toList_eq, beq_eq_false_iff_ne]
            intro h
            exact hq (ByteArray.ext (Array.ext' h))
          clear hq UV hH2 UO2
          go_wp2_with fail
          refine (PK.out _ (Ext.refl _)).mono ?_
          rintro e w6 ⟨rfl, hb6⟩
          have T7 := T6.under hb6 T6.lt
          have B7 := Ext.then_ B6 hb6
          clear T6 B6 hb6
          have c0 := T7.cell 0
          have f0 := T7.free 0
          have cs := (T7.store 0 (.slice none 0 0)).cell 0
          simp at c0 cs
          have hl := T7.lt
          go_wp2_with fail
          refine bodyPost_ret (v := .tuple #[.agg #[.slice none 0 0], .bool false]) (by simp [results, Tryd.results22, go_sem, cs]) rfl (RES.out _ (B7.setCell (p := ⟨w.heap.size, 0, none⟩) (Nat.le_refl _) _) U)
      · have U : uOk s = false := by rw [UO2.out, show decide (P = N) = false from by simpa using hPN]; rfl
        have hPN2 : ¬ (P : Int) = (N : Int) := by omega
        have c0 := T6.cell 0
        have f0 := T6.free 0
        have cs := (T6.store 0 (.slice none 0 0)).cell 0
        simp at c0 cs
        have hl := T6.lt
        go_wp2_with fail
        refine bodyPost_ret (v := .tuple #[.agg #[.slice none 0 0], .bool false]) (by simp [results, Tryd.results22, go_sem, cs]) rfl (RES.out _ (B6.setCell (p := ⟨w.heap.size, 0, none⟩) (Nat.le_refl _) _) U)
end Go.Proofs.YtogefmkplkddoaaDoor
