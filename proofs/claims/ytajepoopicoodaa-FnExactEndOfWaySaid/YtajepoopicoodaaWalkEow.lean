/- The law FnExactEndOfWay, walked. -/
import Derived.Test.YtajepoopicoodaaShp
import Derived.Test.YtajepoopicoodaaOpenS
import Derived.Test.YtajepoopicoodaaEowS
import Derived.Deep.CutRange
import Derived.Deep.DeepCutAuto
namespace Go.Proofs.Ytajepoopicoodaa
open Go.RowKit

theorem cell_swap {w : World} {o o' : Obj} {p : Addr} {v : Option Value} (h : p.block < w.heap.size) (hc : (w.alloc o).cell? p = v) : (w.alloc o').cell? p = v :=
  ((Ext.more (Ext.refl w) o').cell h).trans (((Ext.more (Ext.refl w) o).cell h).symm.trans hc)
theorem cell_set2 {w : World} {p : Addr} {g : Nat} {u v : Value} {x : Option Value} (h : p.block ≠ g) (hc : w.cell? p = x) : ((w.setCell ⟨g, 0, none⟩ u).setCell ⟨g, 1, none⟩ v).cell? p = x := by
  have C := (((Chg.refl (fun b => b = g) w).store (p := ⟨g, 0, none⟩) rfl u).store (p := ⟨g, 1, none⟩) rfl v)
  by_cases hp : p.block < w.heap.size
  · exact (C.cell hp h).trans hc
  · rw [← hc]
    have e1 : w.heap[p.block]? = none := by simp; omega
    have e2 : ((w.setCell ⟨g, 0, none⟩ u).setCell ⟨g, 1, none⟩ v).heap[p.block]? = none := by simp [World.setCell]; omega
    exact World.cell?_of_block (by rw [e1, e2])
theorem eqSpot_same (x y : Int) (w : World) :
    Calls Try.prog 20 #[.agg #[.int .i64 x, .int .i64 y], .agg #[.int .i64 x, .int .i64 y]] w fun e w' => e = .returned (.bool true) ∧ (w.alloc (.cells #[.int .i64 x, .int .i64 y] 28)).alloc (.cells #[.int .i64 x, .int .i64 y] 28) = w' := by
  go_enter Try.func20, Try.ntmps20
  go_wp2_with fail
  go_ret
  exact ⟨rfl, rfl⟩
set_option maxRecDepth 100000 in
set_option maxHeartbeats 4000000 in
theorem walkEndOfWay (W : World) (A : Option Addr) (c : Nat) (gr : List (List Int)) (hA : MatRdA W A gr) (hn : gr.length ≤ maxLen) (hs : ∀ r ∈ gr, r.length ≤ maxLen) (ax ay : Int) (s : ByteArray) :
    Calls Try.prog 3 #[.agg #[.slice A gr.length c], .agg #[.int .i64 ax, .int .i64 ay], .string s] W fun e w' => e = .returned (.bool true) ∧ Below W.heap.size W w' := by
  have SZ := Lib.hid (fun (l0 : Nat) (hl : l0 ≤ 1048576) V (hb : Below W.heap.size W V) => greySz_any A c gr l0 hl V (hA.ext hb) hn hs)
  have TO := Lib.hid (fun V (hb : Below W.heap.size W V) (hm : greySmall gr) => toGrey_any A c gr V (hA.ext hb) hm.1 hm.2.2)
  have EX := Lib.hid (fun (A B : Option Addr) (c d : Nat) V (h1 : MatRd V A gr) (h2 : MatRd V B gr) (hm : greySmall gr) => eqGrey_any A B c d gr V h1 h2 (by have := hm.1; omega) hm.row)
  have IM := Lib.hid (fun (A : Option Addr) (c : Nat) V (h : MatRd V A gr) (m : greySmall gr) => endOfWay_any A c gr ax ay s V h (by have := m.1; omega) m.row)
  have SP := Lib.hid (fun (A : Option Addr) (c : Nat) V (h : MatRd V A gr) (m : greySmall gr) => endOfWayS_any A c gr ax ay s V h (by have := m.1; omega) m.row)
  have TSa := Lib.hid (fun V => toSpot_any ax ay V)
  clear hA hn hs
  obtain ⟨rx, ry, R0, R1, hR⟩ : ∃ (rx ry R0 : Int) (R1 : Bool), ewRet (ewV gr ax ay s) = .tuple #[.agg #[.int .i64 rx, .int .i64 ry], .int .i64 R0, .bool R1] := by
    cases ewV gr ax ay s with
    | none => exact ⟨0, 0, 0, false, rfl⟩
    | some p => exact ⟨p.1.1, p.1.2, p.2, true, rfl⟩
  rw [hR] at IM SP
  clear hR
  generalize gr.length = n_gr at *
  have B1 : Below W.heap.size W ((W.alloc (.cells #[.slice A n_gr c] 24)).alloc (.cells #[.int .i64 ax, .int .i64 ay] 26)) := Ext.more (Ext.more (Ext.refl _) _) _
  have TA : Blk ((W.alloc (.cells #[.slice A n_gr c] 24)).alloc (.cells #[.int .i64 ax, .int .i64 ay] 26)) (W.heap.size) 24 #[.slice A n_gr c] := (Blk.made W _ _).more _
  have Ta : Blk ((W.alloc (.cells #[.slice A n_gr c] 24)).alloc (.cells #[.int .i64 ax, .int .i64 ay] 26)) (W.heap.size + 1) 26 #[.int .i64 ax, .int .i64 ay] := by
    have := Blk.made (W.alloc (.cells #[.slice A n_gr c] 24)) 26 #[.int .i64 ax, .int .i64 ay]
    simpa using this
  go_enter Try.func3, Try.ntmps3
  by_cases hlong : (1048576 : Int) < (s.size : Int)
  · go_wp2_with fail
    go_ret
    exact ⟨rfl, B1⟩
  go_wp2_with fail
  refine (SZ.out 1048576 (by omega) _ B1).mono ?_
  rintro e w1 ⟨⟨r1, rfl, hr1⟩, hb⟩
  replace B1 := Ext.then_ B1 hb
  replace TA := TA.under hb TA.lt
  replace Ta := Ta.under hb Ta.lt
  clear hb
  by_cases h0 : r1 < 0
  · clear hr1
    go_wp2_with fail
    go_ret
    exact ⟨rfl, B1⟩
  have M : Hid (greySmall gr) := by
    rcases hr1 with h | h
    · exact absurd h h0
    · exact h.1
  clear SZ hr1
  go_wp2_with fail
  have kTA := TA.cell 0
  have kTa := Ta.cell 0
  have lTa := Ta.cell 1
  simp at kTA kTa lTa
  have zTA := TA.lt
  have zTa := Ta.lt
  go_upto_region 7 with fail
  go_cut [8, 9, 10] (fun s8 s9 s10 wx => ∃ b8 : Nat, s8 = .pointer (some ⟨b8, 0, none⟩) ∧ s9 = .int .i64 R0 ∧ s10 = .bool R1 ∧ Blk wx b8 28 #[.int .i64 rx, .int .i64 ry] ∧ Below w1.heap.size w1 wx)
  case first =>
    have aTA1 : ∀ o, (w1.drew.alloc o).cell? ⟨W.heap.size, 0, none⟩ = some (.slice A n_gr c) := fun o => cell_more (by first | omega | (simp; omega)) kTA; have aTa1 : ∀ o, (w1.drew.alloc o).cell? ⟨W.heap.size + 1, 0, none⟩ = some (.int .i64 ax) := fun o => cell_more (by first | omega | (simp; omega)) kTa; have alTa1 : ∀ o, (w1.drew.alloc o).cell? ⟨W.heap.size + 1, 1, none⟩ = some (.int .i64 ay) := fun o => cell_more (by first | omega | (simp; omega)) lTa
    have aTA0 : ∀ o, (w1.alloc o).cell? ⟨W.heap.size, 0, none⟩ = some (.slice A n_gr c) := fun o => cell_more (by first | omega | (simp; omega)) kTA; have aTa0 : ∀ o, (w1.alloc o).cell? ⟨W.heap.size + 1, 0, none⟩ = some (.int .i64 ax) := fun o => cell_more (by first | omega | (simp; omega)) kTa; have alTa0 : ∀ o, (w1.alloc o).cell? ⟨W.heap.size + 1, 1, none⟩ = some (.int .i64 ay) := fun o => cell_more (by first | omega | (simp; omega)) lTa
    go_region_with (first
      | (go_at_call 17; first
          | (refine (TO.out _ (Ext.draw B1) M.out).mono ?_; rintro e w2 ⟨A2, c2, vs2, rfl, x2, hb'⟩; have h12 : Below w1.heap.size w1 w2 := Ext.undraw hb'; have kTA2 := (h12.cell (p := ⟨W.heap.size, 0, none⟩) (by omega)).trans kTA; have kTa2 := (h12.cell (p := ⟨W.heap.size + 1, 0, none⟩) (by omega)).trans kTa; have lTa2 := (h12.cell (p := ⟨W.heap.size + 1, 1, none⟩) (by omega)).trans lTa; have z12 := h12.size; have aTA2 : ∀ o, (w2.alloc o).cell? ⟨W.heap.size, 0, none⟩ = some (.slice A n_gr c) := fun o => cell_more (by first | omega | (simp; omega)) kTA2; have aTa2 : ∀ o, (w2.alloc o).cell? ⟨W.heap.size + 1, 0, none⟩ = some (.int .i64 ax) := fun o => cell_more (by first | omega | (simp; omega)) kTa2; have alTa2 : ∀ o, (w2.alloc o).cell? ⟨W.heap.size + 1, 1, none⟩ = some (.int .i64 ay) := fun o => cell_more (by first | omega | (simp; omega)) lTa2)
          | (refine (TO.out _ (Ext.more (Ext.draw B1) _) M.out).mono ?_; rintro e w2 ⟨A2, c2, vs2, rfl, x2, hb'⟩; have h12 : Below w1.heap.size w1 w2 := Ext.undraw (Ext.then_ (Ext.more (Ext.refl _) _) hb'); have T8 : Blk w2 w1.heap.size 28 #[.int .i64 0, .int .i64 0] := (Blk.made w1.drew _ _).under hb' (by simp); have b0 := T8.cell 0; have b1 := T8.cell 1; have f0 := T8.free 0; have f1 := T8.free 1; simp at b0 b1; have kTA2 := (h12.cell (p := ⟨W.heap.size, 0, none⟩) (by omega)).trans kTA; have kTa2 := (h12.cell (p := ⟨W.heap.size + 1, 0, none⟩) (by omega)).trans kTa; have lTa2 := (h12.cell (p := ⟨W.heap.size + 1, 1, none⟩) (by omega)).trans lTa))
      | (go_at_call_of 18 (Value.agg #[Value.int .i64 ax, Value.int .i64 ay]); first
          | (refine (TSa.out w2).mono ?_; rintro e w3a ⟨rfl, hb'⟩; have hsa := hb'; try (replace T8 := T8.under hb' T8.lt; clear b0 b1 f0 f1; have b0 := T8.cell 0; have b1 := T8.cell 1; have f0 := T8.free 0; have f1 := T8.free 1; simp at b0 b1))
          | (refine (TSa.out _).mono ?_; rintro e w3a ⟨rfl, hb'⟩; have hsa : Below w2.heap.size w2 w3a := Ext.then_ (Ext.more (Ext.refl _) _) hb'; have T8 : Blk w3a w2.heap.size 28 #[.int .i64 0, .int .i64 0] := (Blk.made w2 _ _).under hb' (by simp); have b0 := T8.cell 0; have b1 := T8.cell 1; have f0 := T8.free 0; have f1 := T8.free 1; simp at b0 b1))
      | (go_at_call 16; first
          | (refine (SP.out A2 c2 w3a (x2.ext hsa).rd M.out).mono ?_; rintro e w4 ⟨rfl, hb'⟩; have h34 := hb'; try (replace T8 := T8.under hb' T8.lt; clear b0 b1 f0 f1; have b0 := T8.cell 0; have b1 := T8.cell 1; have f0 := T8.free 0; have f1 := T8.free 1; simp at b0 b1))
          | (refine (SP.out A2 c2 _ ((x2.ext hsa).ext (Ext.more (Ext.refl _) _)).rd M.out).mono ?_; rintro e w4 ⟨rfl, hb'⟩; have h34 : Below w3a.heap.size w3a w4 := Ext.then_ (Ext.more (Ext.refl _) _) hb'; have T8 : Blk w4 w3a.heap.size 28 #[.int .i64 0, .int .i64 0] := (Blk.made w3a _ _).under hb' (by simp); have b0 := T8.cell 0; have b1 := T8.cell 1; have f0 := T8.free 0; have f1 := T8.free 1; simp at b0 b1)))
    all_goals
      have h14 : Below w1.heap.size w1 w4 := Ext.then_ (Ext.then_ h12 hsa) h34
      have zz1 := h12.size
      have zz2 := hsa.size
      go_wp2_with fail
      go_meet
      first
        | exact ⟨_, rfl, rfl, rfl, Blk.made w4 _ _, Ext.more h14 _⟩
        | (have hX := (h14.setCell (p := ⟨w1.heap.size, 0, none⟩) (by show w1.heap.size ≤ w1.heap.size; omega) (.int .i64 rx)).setCell (p := ⟨w1.heap.size, 1, none⟩) (by show w1.heap.size ≤ w1.heap.size; omega) (.int .i64 ry)
           have hT := (T8.store 0 (.int .i64 rx)).store 1 (.int .i64 ry)
           exact ⟨_, rfl, rfl, rfl, by simpa using hT, hX⟩)
        | (have hX := (h14.setCell (p := ⟨w2.heap.size, 0, none⟩) (by show w1.heap.size ≤ w2.heap.size; omega) (.int .i64 rx)).setCell (p := ⟨w2.heap.size, 1, none⟩) (by show w1.heap.size ≤ w2.heap.size; omega) (.int .i64 ry)
           have hT := (T8.store 0 (.int .i64 rx)).store 1 (.int .i64 ry)
           exact ⟨_, rfl, rfl, rfl, by simpa using hT, hX⟩)
        | (have hX := (h14.setCell (p := ⟨w3a.heap.size, 0, none⟩) (by show w1.heap.size ≤ w3a.heap.size; omega) (.int .i64 rx)).setCell (p := ⟨w3a.heap.size, 1, none⟩) (by show w1.heap.size ≤ w3a.heap.size; omega) (.int .i64 ry)
           have hT := (T8.store 0 (.int .i64 rx)).store 1 (.int .i64 ry)
           exact ⟨_, rfl, rfl, rfl, by simpa using hT, hX⟩)
  case rest =>
    obtain ⟨b8, rfl, rfl, rfl, T8, hb⟩ := hcut
    obtain ⟨w4, rfl⟩ : ∃ w4 : World, w4 = wc := ⟨_, rfl⟩
    clear zTA zTa
    clear kTA kTa lTa
    replace B1 := Ext.then_ B1 hb
    replace TA := TA.under hb TA.lt
    replace Ta := Ta.under hb Ta.lt
    clear hb
    have kTA := TA.cell 0
    simp at kTA
    go_wp2_with fail
    refine (TO.out _ B1 M.out).mono ?_
    rintro e w5 ⟨A5, c5, vs5, rfl, x5, hb⟩
    clear kTA
    have z5 := hb.size
    have hbx := Ext.more hb (.cells #[.slice A5 n_gr c5] 31)
    replace B1 := Ext.then_ B1 hbx
    replace TA := TA.under hbx TA.lt
    replace Ta := Ta.under hbx Ta.lt
    replace T8 := T8.under hbx T8.lt
    have TX := Blk.made w5 31 #[.slice A5 n_gr c5]
    replace x5 := x5.ext (Ext.more (Ext.refl _) (.cells #[.slice A5 n_gr c5] 31))
    clear hb hbx
    go_wp2_with fail
    generalize w5.alloc (.cells #[.slice A5 n_gr c5] 31) = V5 at *
    have y5 := TX.lt
    have kTX := TX.cell 0
    have kTa := Ta.cell 0
    have lTa := Ta.cell 1
    simp at kTX kTa lTa
    have zTX := TX.lt
    have zTa := Ta.lt
    go_upto_region 9 with fail
    go_cut [12, 13, 14] (fun s8 s9 s10 wx => ∃ b8 : Nat, s8 = .pointer (some ⟨b8, 0, none⟩) ∧ s9 = .int .i64 R0 ∧ s10 = .bool R1 ∧ Blk wx b8 28 #[.int .i64 rx, .int .i64 ry] ∧ Below V5.heap.size V5 wx)
    case first =>
      have aTX1 : ∀ o, (V5.drew.alloc o).cell? ⟨w5.heap.size, 0, none⟩ = some (.slice A5 n_gr c5) := fun o => cell_more (by first | omega | (simp; omega)) kTX; have aTa1 : ∀ o, (V5.drew.alloc o).cell? ⟨W.heap.size + 1, 0, none⟩ = some (.int .i64 ax) := fun o => cell_more (by first | omega | (simp; omega)) kTa; have alTa1 : ∀ o, (V5.drew.alloc o).cell? ⟨W.heap.size + 1, 1, none⟩ = some (.int .i64 ay) := fun o => cell_more (by first | omega | (simp; omega)) lTa
      have aTX0 : ∀ o, (V5.alloc o).cell? ⟨w5.heap.size, 0, none⟩ = some (.slice A5 n_gr c5) := fun o => cell_more (by first | omega | (simp; omega)) kTX; have aTa0 : ∀ o, (V5.alloc o).cell? ⟨W.heap.size + 1, 0, none⟩ = some (.int .i64 ax) := fun o => cell_more (by first | omega | (simp; omega)) kTa; have alTa0 : ∀ o, (V5.alloc o).cell? ⟨W.heap.size + 1, 1, none⟩ = some (.int .i64 ay) := fun o => cell_more (by first | omega | (simp; omega)) lTa
      go_region_with (first
        | (go_at_call_of 18 (Value.agg #[Value.int .i64 ax, Value.int .i64 ay]); first
            | (refine (TSa.out V5.drew).mono ?_; rintro e w6a ⟨rfl, hb'⟩; have h56 : Below V5.heap.size V5 w6a := Ext.undraw hb'; have kTX2 := (h56.cell (p := ⟨w5.heap.size, 0, none⟩) (by omega)).trans kTX; have kTa2 := (h56.cell (p := ⟨W.heap.size + 1, 0, none⟩) (by omega)).trans kTa; have lTa2 := (h56.cell (p := ⟨W.heap.size + 1, 1, none⟩) (by omega)).trans lTa; have z56 := h56.size; have aTX2 : ∀ o, (w6a.alloc o).cell? ⟨w5.heap.size, 0, none⟩ = some (.slice A5 n_gr c5) := fun o => cell_more (by first | omega | (simp; omega)) kTX2; have aTa2 : ∀ o, (w6a.alloc o).cell? ⟨W.heap.size + 1, 0, none⟩ = some (.int .i64 ax) := fun o => cell_more (by first | omega | (simp; omega)) kTa2; have alTa2 : ∀ o, (w6a.alloc o).cell? ⟨W.heap.size + 1, 1, none⟩ = some (.int .i64 ay) := fun o => cell_more (by first | omega | (simp; omega)) lTa2)
            | (refine (TSa.out _).mono ?_; rintro e w6a ⟨rfl, hb'⟩; have h56 : Below V5.heap.size V5 w6a := (by first | exact Ext.undraw (Ext.then_ (Ext.more (Ext.refl _) _) hb') | exact Ext.then_ (Ext.draw (Ext.more (Ext.refl V5) _)) hb'); have T12 : Blk w6a V5.heap.size 28 #[.int .i64 0, .int .i64 0] := (by first | exact (Blk.made V5.drew _ _).under hb' (by simp) | exact Blk.under (w := (V5.alloc _).drew) (Blk.made V5 _ _) hb' (by simp)); have b0 := T12.cell 0; have b1 := T12.cell 1; have f0 := T12.free 0; have f1 := T12.free 1; simp at b0 b1; have kTX2 := (h56.cell (p := ⟨w5.heap.size, 0, none⟩) (by omega)).trans kTX; have kTa2 := (h56.cell (p := ⟨W.heap.size + 1, 0, none⟩) (by omega)).trans kTa; have lTa2 := (h56.cell (p := ⟨W.heap.size + 1, 1, none⟩) (by omega)).trans lTa))
        | (go_at_call 19; first
            | (refine (IM.out A5 c5 w6a (x5.ext h56).rd M.out).mono ?_; rintro e w7 ⟨rfl, hb'⟩; have h67 := hb'; try (replace T12 := T12.under hb' T12.lt; clear b0 b1 f0 f1; have b0 := T12.cell 0; have b1 := T12.cell 1; have f0 := T12.free 0; have f1 := T12.free 1; simp at b0 b1))
            | (refine (IM.out A5 c5 _ ((x5.ext h56).ext (Ext.more (Ext.refl _) _)).rd M.out).mono ?_; rintro e w7 ⟨rfl, hb'⟩; have h67 : Below w6a.heap.size w6a w7 := Ext.then_ (Ext.more (Ext.refl _) _) hb'; have T12 : Blk w7 w6a.heap.size 28 #[.int .i64 0, .int .i64 0] := (Blk.made w6a _ _).under hb' (by simp); have b0 := T12.cell 0; have b1 := T12.cell 1; have f0 := T12.free 0; have f1 := T12.free 1; simp at b0 b1)))
      all_goals
        have h14 : Below V5.heap.size V5 w7 := Ext.then_ h56 h67
        have zz1 := h56.size
        go_wp2_with fail
        go_meet
        first
          | exact ⟨_, rfl, rfl, rfl, Blk.made w7 _ _, Ext.more h14 _⟩
          | (have hX := (h14.setCell (p := ⟨V5.heap.size, 0, none⟩) (by show V5.heap.size ≤ V5.heap.size; omega) (.int .i64 rx)).setCell (p := ⟨V5.heap.size, 1, none⟩) (by show V5.heap.size ≤ V5.heap.size; omega) (.int .i64 ry)
             have hT := (T12.store 0 (.int .i64 rx)).store 1 (.int .i64 ry)
             exact ⟨_, rfl, rfl, rfl, by simpa using hT, hX⟩)
          | (have hX := (h14.setCell (p := ⟨w6a.heap.size, 0, none⟩) (by show V5.heap.size ≤ w6a.heap.size; omega) (.int .i64 rx)).setCell (p := ⟨w6a.heap.size, 1, none⟩) (by show V5.heap.size ≤ w6a.heap.size; omega) (.int .i64 ry)
             have hT := (T12.store 0 (.int .i64 rx)).store 1 (.int .i64 ry)
             exact ⟨_, rfl, rfl, rfl, by simpa using hT, hX⟩)
    case rest =>
      obtain ⟨b12, rfl, rfl, rfl, T12, hb⟩ := hcut
      obtain ⟨w7, rfl⟩ : ∃ w7 : World, w7 = wc := ⟨_, rfl⟩
      clear zTX zTa
      clear kTX kTa lTa
      replace B1 := Ext.then_ B1 hb
      replace TA := TA.under hb TA.lt
      replace T8 := T8.under hb T8.lt
      replace TX := TX.under hb TX.lt
      replace x5 := x5.ext hb
      have z7 := hb.size
      clear hb Ta
      have q0 : (R0 != R0) = false := by simp
      have q1 : (R1 != R1) = false := by simp
      have k8 := T8.cell 0
      have l8 := T8.cell 1
      have k12 := T12.cell 0
      have l12 := T12.cell 1
      simp at k8 l8 k12 l12
      have ES := Lib.hid (fun V => (eqSpot_same rx ry V).mono (fun e w' h => (show e = .returned (.bool true) ∧ Below V.heap.size V w' from ⟨h.1, by rw [← h.2]; exact Ext.more (Ext.more (Ext.refl _) _) _⟩)))
      go_wp2_with fail
      refine (ES.out _).mono ?_
      rintro e w7b ⟨rfl, hb⟩
      replace B1 := Ext.then_ B1 hb
      replace TA := TA.under hb TA.lt
      replace TX := TX.under hb TX.lt
      replace x5 := x5.ext hb
      clear hb k8 l8 k12 l12 T8 T12
      have kTX := TX.cell 0
      have kTA := TA.cell 0
      simp at kTX kTA
      have zz1 := TX.lt
      have zz2 := TA.lt
      go_wp2_with fail
      go_region_held3 (fun w' => w'.cell? ⟨w5.heap.size, 0, none⟩ = some (.slice A5 n_gr c5) ∧ w'.cell? ⟨W.heap.size, 0, none⟩ = some (.slice A n_gr c))
        (first | ((go_split_ands; refine ⟨?_, ?_⟩ <;> exact (hb'.cell (p := ⟨_, _, none⟩) (by first | omega | (simp; omega) | simp)).trans (by assumption))) | go_keep)
        (first
          | (go_at_call 17; refine (TO.out _ (Ext.draw B1) M.out).mono ?_; rintro e w8 ⟨A8, c8, vs8, rfl, x8, hb'⟩; have hs8 := hb'; have z8 : w7b.heap.size ≤ w8.heap.size := hb'.size)
          | (go_at_call 21; refine (EX.out _ _ _ _ _ (x5.ext (Ext.undraw hb')).rd x8.rd M.out).mono ?_; rintro e w9 ⟨rfl, hb'⟩))
      have hb := Ext.undraw (Ext.then_ hs8 hb')
      replace B1 := Ext.then_ B1 hb
      go_wp2_with fail
      go_ret
      exact ⟨rfl, B1⟩
end Go.Proofs.Ytajepoopicoodaa
