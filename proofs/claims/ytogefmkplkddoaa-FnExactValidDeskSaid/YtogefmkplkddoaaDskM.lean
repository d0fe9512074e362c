/- Desks, as the laws hand them on: whole desks; the law of ValidDesk, walked. -/
import Derived.Test.YtogefmkplkddoaaDskL
namespace Go.Proofs.Ytogefmkplkddoaa
open Go.ChangeShapes Go.WideShapes Go.ChangeAt Go.RowKit

set_option maxHeartbeats 400000 in
theorem deskSz_any (A B : Option Addr) (c d : Nat) (names : List ByteArray) (ps : List (List ByteArray)) (w : World) (hA : RdA w A (strs names)) (hB : PsRdA w B ps) (hn : names.length ≤ maxLen) (hs : ∀ r ∈ names, r.size ≤ maxLen) (hp : psLen ps) :
    Calls Try.prog 22 #[.agg #[.slice A names.length c, .slice B ps.length d], .int .i64 1048576] w fun e w' => (∃ r : Int, e = .returned (.int .i64 r) ∧ (r < 0 ∨ strsSmall names ∧ psSmall ps)) ∧ Below w.heap.size w w' := by
  have SN := Lib.hid (fun V (hb : Below w.heap.size w V) => strsSzB_any A c names 1048576 (Nat.le_refl _) V (hA.ext hb) hn hs)
  have SP := Lib.hid (fun V (l : Nat) (hl : l ≤ 1048576) (hb : Below w.heap.size w V) => psSz_any B d ps l hl V (hB.ext hb) hp)
  have T0 := Blk.made w 47 #[.slice A names.length c, .slice B ps.length d]
  have B0 : Below w.heap.size w (w.alloc (.cells #[.slice A names.length c, .slice B ps.length d] 47)) := Ext.more (Ext.refl _) _
  clear hA hB hn hs hp
  generalize strsSmall names = S1 at *
  generalize psSmall ps = S2 at *
  generalize names.length = n at *
  generalize ps.length = m at *
  have c0 := T0.cell 0
  have c1 := T0.cell 1
  simp at c0 c1
  go_enter Try.func22, Try.ntmps22
  go_wp2_with fail
  refine (SN.out _ B0).mono ?_
  rintro e w1 ⟨⟨r, rfl, hr⟩, hb1⟩
  have T1 := T0.under hb1 T0.lt
  have B1 := Ext.then_ B0 hb1
  clear c0 c1
  have c0 := T1.cell 0
  have c1 := T1.cell 1
  simp at c0 c1
  by_cases h0 : r < 0
  · clear hr
    go_wp2_with fail
    go_ret
    exact ⟨⟨-1, rfl, .inl (by decide)⟩, B1⟩
  · obtain ⟨s1, l, hl, rfl⟩ := hr.resolve_left h0
    have HS := Lib.hid s1
    clear hr s1
    have SL := Lib.hid (SP.out w1 l hl B1)
    go_wp2_with fail
    refine SL.out.mono ?_
    rintro e w2 ⟨⟨r, rfl, hr⟩, hb2⟩
    have B2 := Ext.then_ B1 hb2
    by_cases h1 : r < 0
    · clear hr
      go_wp2_with fail
      go_ret
      exact ⟨⟨-1, rfl, .inl (by decide)⟩, B2⟩
    · have HR := Lib.hid (hr.resolve_left h1)
      clear hr
      go_wp2_with fail
      go_ret
      exact ⟨⟨r, rfl, .inr ⟨HS.out, HR.out⟩⟩, B2⟩
set_option maxHeartbeats 400000 in
theorem toDesk_any (A B : Option Addr) (c d : Nat) (names : List ByteArray) (ps : List (List ByteArray)) (w : World) (hA : RdA w A (strs names)) (hB : PsRdA w B ps) (hn : strsSmall names) (hp : psSmall ps) :
    Calls Try.prog 24 #[.agg #[.slice A names.length c, .slice B ps.length d]] w fun e w' => (∃ A' c' B' d', e = .returned (.agg #[.slice A' names.length c', .slice B' ps.length d']) ∧ Rd w' A' (strs names) ∧ PsRd w' B' ps) ∧ Below w.heap.size w w' := by
  have SN := Lib.hid (fun V (hb : Below w.heap.size w V) => toStrs_any A c names V (hA.ext hb) hn.1)
  have SP := Lib.hid (fun V (hb : Below w.heap.size w V) => psTo_any B d ps V (hB.ext hb) hp.1 (fun r hr => (hp.2 r hr).1))
  clear hA hB hn hp
  obtain ⟨n, hN⟩ : ∃ n, names.length = n := ⟨_, rfl⟩
  obtain ⟨m, hM⟩ : ∃ m, ps.length = m := ⟨_, rfl⟩
  rw [hN] at SN ⊢
  rw [hM] at SP ⊢
  clear hN hM
  obtain ⟨W0, hW0⟩ : ∃ W0, ((w.alloc (.cells #[.slice A n c, .slice B m d] 47)).alloc (.cells #[.slice none 0 0, .slice none 0 0] 52)).alloc (.cells #[.slice none 0 0, .slice none 0 0] 52) = W0 := ⟨_, rfl⟩
  have B0 : Below w.heap.size w W0 := by rw [← hW0]; exact Ext.more (Ext.more (Ext.more (Ext.refl _) _) _) _
  have TA : Blk W0 w.heap.size 47 #[.slice A n c, .slice B m d] := by rw [← hW0]; exact ((Blk.made w _ _).more _).more _
  have TR : Blk W0 (w.heap.size + 1) 52 #[.slice none 0 0, .slice none 0 0] := by
    rw [← hW0]
    have := (Blk.made (w.alloc (.cells #[.slice A n c, .slice B m d] 47)) 52 #[.slice none 0 0, .slice none 0 0]).more (.cells #[.slice none 0 0, .slice none 0 0] 52)
    simpa using this
  have TO : Blk W0 (w.heap.size + 1 + 1) 52 #[.slice none 0 0, .slice none 0 0] := by
    rw [← hW0]
    have := Blk.made ((w.alloc (.cells #[.slice A n c, .slice B m d] 47)).alloc (.cells #[.slice none 0 0, .slice none 0 0] 52)) 52 #[.slice none 0 0, .slice none 0 0]
    simpa using this
  have z0 : W0.heap.size = w.heap.size + 3 := by rw [← hW0]; simp
  have HW := Lib.hid hW0
  clear hW0
  go_enter Try.func24, Try.ntmps24
  go_wp2_with fail
  rw [HW.out]
  refine (SN.out _ B0).mono ?_
  rintro e w1 ⟨A', c', rfl, hown, hb1⟩
  have TA1 := TA.under hb1 TA.lt
  have TR1 := TR.under hb1 TR.lt
  have TO1 := TO.under hb1 TO.lt
  have TA2 := TA1.apart (p := ⟨w.heap.size + 1 + 1, 0, none⟩) (by show w.heap.size ≠ w.heap.size + 1 + 1; omega) (.slice A' n c')
  have TR2 := TR1.apart (p := ⟨w.heap.size + 1 + 1, 0, none⟩) (by show w.heap.size + 1 ≠ w.heap.size + 1 + 1; omega) (.slice A' n c')
  have TO2 := TO1.store 0 (.slice A' n c')
  have z1 := hb1.size
  have RN : Hid (Rd (w1.setCell ⟨w.heap.size + 1 + 1, 0, none⟩ (.slice A' n c')) A' (strs names)) := Rd.of_own (ownsRow_setCell_below hown (a := ⟨w.heap.size + 1 + 1, 0, none⟩) (by show w.heap.size + 1 + 1 < _; omega) _)
  have OW : Hid ((w1.setCell ⟨w.heap.size + 1 + 1, 0, none⟩ (.slice A' n c')).ownsRow W0.heap.size 9 1 (.slice A' n c') n (strs names)) := ownsRow_setCell_below hown (a := ⟨w.heap.size + 1 + 1, 0, none⟩) (by show w.heap.size + 1 + 1 < _; omega) _
  have B2 : Below w.heap.size w (w1.setCell ⟨w.heap.size + 1 + 1, 0, none⟩ (.slice A' n c')) := (Ext.then_ B0 hb1).setCell (p := ⟨w.heap.size + 1 + 1, 0, none⟩) (by show w.heap.size ≤ w.heap.size + 1 + 1; omega) _
  have SPL := Lib.hid (SP.out _ B2)
  have a1 := TA2.cell 1
  have o0 := TO1.cell 0
  have of0 := TO1.free 0
  have ol := TO1.lt
  simp at a1 o0
  clear TA TR TO hown SN SP
  go_wp2_with fail
  refine SPL.out.mono ?_
  rintro e w3 ⟨B', d', vs, rfl, hps, hb3⟩
  obtain ⟨w2, hw2⟩ : ∃ w2, w1.setCell ⟨w.heap.size + 1 + 1, 0, none⟩ (.slice A' n c') = w2 := ⟨_, rfl⟩
  rw [hw2] at TA2 TR2 TO2 RN OW B2 hps hb3
  have zz : w2.heap.size = w1.heap.size := by rw [← hw2]; simp [World.setCell]
  clear a1 o0 of0 ol SPL hw2
  have TO3 := TO2.under hb3 TO2.lt
  have TR3 := TR2.under hb3 TR2.lt
  have TO4 := TO3.store 1 (.slice B' m d')
  have TR4 := TR3.apart (p := ⟨w.heap.size + 1 + 1, 1, none⟩) (by show w.heap.size + 1 ≠ w.heap.size + 1 + 1; omega) (.slice B' m d')
  have TO5 := TO4.apart (p := ⟨w.heap.size + 1, 0, none⟩) (by show w.heap.size + 1 + 1 ≠ w.heap.size + 1; omega) (.slice A' n c')
  have TR5 := TR4.store 0 (.slice A' n c')
  have TR6 := TR5.store 1 (.slice B' m d')
  have p1 := TO3.cell 1
  have pf1 := TO3.free 1
  have pl := TO3.lt
  have q0 := TO4.cell 0
  have q1 := TO4.cell 1
  have r0 := TR4.cell 0
  have r1 := TR5.cell 1
  have rf0 := TR4.free 0
  have rf1 := TR5.free 1
  have rl := TR4.lt
  have s0 := TR6.cell 0
  have s1 := TR6.cell 1
  simp at p1 q0 q1 r0 r1 s0 s1
  have CG : Chg (fun x => x < w1.heap.size) w3 (((w3.setCell ⟨w.heap.size + 1 + 1, 1, none⟩ (.slice B' m d')).setCell ⟨w.heap.size + 1, 0, none⟩ (.slice A' n c')).setCell ⟨w.heap.size + 1, 1, none⟩ (.slice B' m d')) :=
    (((Chg.refl _ w3).store (p := ⟨w.heap.size + 1 + 1, 1, none⟩) (by show w.heap.size + 1 + 1 < w1.heap.size; omega) _).store (p := ⟨w.heap.size + 1, 0, none⟩) (by show w.heap.size + 1 < w1.heap.size; omega) _).store (p := ⟨w.heap.size + 1, 1, none⟩) (by show w.heap.size + 1 < w1.heap.size; omega) _
  have B3 := Ext.then_ B2 hb3
  have FIN : Hid ((∃ A2 c2 B2 d2, Ending.returned (.agg #[.slice A' n c', .slice B' m d']) = .returned (.agg #[.slice A2 n c2, .slice B2 m d2]) ∧ Rd (((w3.setCell ⟨w.heap.size + 1 + 1, 1, none⟩ (.slice B' m d')).setCell ⟨w.heap.size + 1, 0, none⟩ (.slice A' n c')).setCell ⟨w.heap.size + 1, 1, none⟩ (.slice B' m d')) A2 (strs names) ∧ PsRd (((w3.setCell ⟨w.heap.size + 1 + 1, 1, none⟩ (.slice B' m d')).setCell ⟨w.heap.size + 1, 0, none⟩ (.slice A' n c')).setCell ⟨w.heap.size + 1, 1, none⟩ (.slice B' m d')) B2 ps) ∧ Below w.heap.size w (((w3.setCell ⟨w.heap.size + 1 + 1, 1, none⟩ (.slice B' m d')).setCell ⟨w.heap.size + 1, 0, none⟩ (.slice A' n c')).setCell ⟨w.heap.size + 1, 1, none⟩ (.slice B' m d'))) := by
    refine ⟨⟨A', c', B', d', rfl, ?_, ?_⟩, ?_⟩
    · have h1 := own_ext hb3 OW.out
      have h2 := ownsRow_setCell_below h1 (a := ⟨w.heap.size + 1 + 1, 1, none⟩) (by show w.heap.size + 1 + 1 < _; omega) (.slice B' m d')
      have h3 := ownsRow_setCell_below h2 (a := ⟨w.heap.size + 1, 0, none⟩) (by show w.heap.size + 1 < _; omega) (.slice A' n c')
      exact Rd.of_own (ownsRow_setCell_below h3 (a := ⟨w.heap.size + 1, 1, none⟩) (by show w.heap.size + 1 < _; omega) (.slice B' m d'))
    · exact (hps.keep CG (fun b h1 _ h3 => by have h3 : b < w1.heap.size := h3; omega)).rd
    · exact ((B3.setCell (p := ⟨w.heap.size + 1 + 1, 1, none⟩) (by show w.heap.size ≤ w.heap.size + 1 + 1; omega) _).setCell (p := ⟨w.heap.size + 1, 0, none⟩) (by show w.heap.size ≤ w.heap.size + 1; omega) _).setCell (p := ⟨w.heap.size + 1, 1, none⟩) (by show w.heap.size ≤ w.heap.size + 1; omega) _
  clear TA1 TR1 TO1 TA2 TR2 TO2 TO3 TR3 TO4 TR4 TO5 TR5 TR6 hps CG B3
  go_wp2_with fail
  refine bodyPost_ret (v := .agg #[.slice A' n c', .slice B' m d']) (by simp [results, Try.results24, go_sem, s0, s1]) rfl FIN.out
set_option maxHeartbeats 400000 in
theorem deskEq_any (A A' B B' : Option Addr) (c c' d d' : Nat) (names : List ByteArray) (ps : List (List ByteArray)) (w : World) (hA : Rd w A (strs names)) (hA' : Rd w A' (strs names)) (hB : PsRd w B ps) (hB' : PsRd w B' ps) (hn : strsSmall names) (hp : psSmall ps) :
    Calls Try.prog 26 #[.agg #[.slice A names.length c, .slice B ps.length d], .agg #[.slice A' names.length c', .slice B' ps.length d']] w fun e w' => e = .returned (.bool true) ∧ Below w.heap.size w w' := by
  have SN := Lib.hid (fun V (hb : Below w.heap.size w V) => strsEq_any A A' c c' names V (hA.ext hb) (hA'.ext hb) (by have := hn.1; omega))
  have SP := Lib.hid (fun V (hb : Below w.heap.size w V) => psEq_any B B' d d' ps V (hB.ext hb) (hB'.ext hb) hp)
  have T0 := (Blk.made w 52 #[.slice A names.length c, .slice B ps.length d]).more (.cells #[.slice A' names.length c', .slice B' ps.length d'] 52)
  have T1 := Blk.made (w.alloc (.cells #[.slice A names.length c, .slice B ps.length d] 52)) 52 #[.slice A' names.length c', .slice B' ps.length d']
  have B0 : Below w.heap.size w ((w.alloc (.cells #[.slice A names.length c, .slice B ps.length d] 52)).alloc (.cells #[.slice A' names.length c', .slice B' ps.length d'] 52)) := Ext.more (Ext.more (Ext.refl _) _) _
  clear hA hA' hB hB' hn hp
  generalize names.length = n at *
  generalize ps.length = m at *
  simp at T1
  go_enter Try.func26, Try.ntmps26
  go_wp2_with fail
  refine (SN.out _ B0).mono ?_
  rintro e w1 ⟨rfl, hb1⟩
  have B1 := Ext.then_ B0 hb1
  have K0 := T0.under hb1 T0.lt
  have K1 := T1.under hb1 T1.lt
  have c1 := K0.cell 1
  have d1 := K1.cell 1
  simp at c1 d1
  have SL := Lib.hid (SP.out _ B1)
  clear T0 T1 K0 K1
  go_wp2_with fail
  refine SL.out.mono ?_
  rintro e w2 ⟨rfl, hb2⟩
  go_wp2_with fail
  go_ret
  exact ⟨rfl, Ext.then_ B1 hb2⟩
end Go.Proofs.Ytogefmkplkddoaa
