/- The law FnExactWayBetween, walked. -/
import Derived.Test.YtajepoopicoodaaShp
import Derived.Test.YtajepoopicoodaaOpenS
import Derived.Test.YtajepoopicoodaaWayI
import Derived.Test.YtajepoopicoodaaWayS
namespace Go.Proofs.Ytajepoopicoodaa
open Go.RowKit

set_option maxRecDepth 100000 in
set_option maxHeartbeats 4000000 in
theorem walkWayBetween (W : World) (A : Option Addr) (c : Nat) (gr : List (List Int)) (hA : MatRdA W A gr) (hn : gr.length ≤ maxLen) (hs : ∀ r ∈ gr, r.length ≤ maxLen) (ax ay bx b_y : Int) :
    Calls Try.prog 9 #[.agg #[.slice A gr.length c], .agg #[.int .i64 ax, .int .i64 ay], .agg #[.int .i64 bx, .int .i64 b_y]] W fun e w' => e = .returned (.bool true) ∧ Below W.heap.size W w' := by
  have SZ := Lib.hid (fun (l0 : Nat) (hl : l0 ≤ 1048576) V (hb : Below W.heap.size W V) => greySz_any A c gr l0 hl V (hA.ext hb) hn hs)
  have TO := Lib.hid (fun V (hb : Below W.heap.size W V) (hm : greySmall gr) => toGrey_any A c gr V (hA.ext hb) hm.1 hm.2.2)
  have EX := Lib.hid (fun (A B : Option Addr) (c d : Nat) V (h1 : MatRd V A gr) (h2 : MatRd V B gr) (hm : greySmall gr) => eqGrey_any A B c d gr V h1 h2 (by have := hm.1; omega) hm.row)
  have IM := Lib.hid (fun (A : Option Addr) (c : Nat) V (h : MatRd V A gr) (m : greySmall gr) => wayBetween_any A c gr ax ay bx b_y V h (by have := m.1; omega) m.row)
  have SP := Lib.hid (fun (A : Option Addr) (c : Nat) V (h : MatRd V A gr) (m : greySmall gr) => wayBetweenS_any A c gr ax ay bx b_y V h (by have := m.1; omega) m.row)
  have TSa := Lib.hid (fun V => toSpot_any ax ay V)
  have TSb := Lib.hid (fun V => toSpot_any bx b_y V)
  clear hA hn hs
  generalize wayV gr ax ay bx b_y = R0 at *
  generalize passOk gr ax ay bx b_y = R1 at *
  generalize gr.length = n_gr at *
  have B1 : Below W.heap.size W (((W.alloc (.cells #[.slice A n_gr c] 24)).alloc (.cells #[.int .i64 ax, .int .i64 ay] 26)).alloc (.cells #[.int .i64 bx, .int .i64 b_y] 26)) := Ext.more (Ext.more (Ext.more (Ext.refl _) _) _) _
  have TA : Blk (((W.alloc (.cells #[.slice A n_gr c] 24)).alloc (.cells #[.int .i64 ax, .int .i64 ay] 26)).alloc (.cells #[.int .i64 bx, .int .i64 b_y] 26)) (W.heap.size) 24 #[.slice A n_gr c] := ((Blk.made W _ _).more _).more _
  have Ta : Blk (((W.alloc (.cells #[.slice A n_gr c] 24)).alloc (.cells #[.int .i64 ax, .int .i64 ay] 26)).alloc (.cells #[.int .i64 bx, .int .i64 b_y] 26)) (W.heap.size + 1) 26 #[.int .i64 ax, .int .i64 ay] := by
    have := (Blk.made (W.alloc (.cells #[.slice A n_gr c] 24)) 26 #[.int .i64 ax, .int .i64 ay]).more (.cells #[.int .i64 bx, .int .i64 b_y] 26)
    simpa using this
  have Tb : Blk (((W.alloc (.cells #[.slice A n_gr c] 24)).alloc (.cells #[.int .i64 ax, .int .i64 ay] 26)).alloc (.cells #[.int .i64 bx, .int .i64 b_y] 26)) (W.heap.size + 1 + 1) 26 #[.int .i64 bx, .int .i64 b_y] := by
    have := Blk.made ((W.alloc (.cells #[.slice A n_gr c] 24)).alloc (.cells #[.int .i64 ax, .int .i64 ay] 26)) 26 #[.int .i64 bx, .int .i64 b_y]
    simpa using this
  go_enter Try.func9, Try.ntmps9
  go_wp2_with fail
  refine (SZ.out 1048576 (by omega) _ B1).mono ?_
  rintro e w1 ⟨⟨r1, rfl, hr1⟩, hb⟩
  replace B1 := Ext.then_ B1 hb
  replace TA := TA.under hb TA.lt
  replace Ta := Ta.under hb Ta.lt
  replace Tb := Tb.under hb Tb.lt
  clear hb
  by_cases h0 : r1 < 0
  · clear hr1
    go_wp2_with fail
    go_ret
    exact ⟨rfl, B1⟩
  have M : Hid (greySmall gr) := by
    rcases hr1 with h | h
    · exact absurd h h0
    · exact h.1
  clear SZ hr1
  go_wp2_with fail
  have kTA := TA.cell 0
  have kTa := Ta.cell 0
  have lTa := Ta.cell 1
  have kTb := Tb.cell 0
  have lTb := Tb.cell 1
  simp at kTA kTa lTa kTb lTb
  have zTA := TA.lt
  have zTa := Ta.lt
  have zTb := Tb.lt
  go_region_held3 (fun w' => w'.cell? ⟨W.heap.size, 0, none⟩ = some (.slice A n_gr c) ∧ w'.cell? ⟨W.heap.size + 1, 0, none⟩ = some (.int .i64 ax) ∧ w'.cell? ⟨W.heap.size + 1, 1, none⟩ = some (.int .i64 ay) ∧ w'.cell? ⟨W.heap.size + 1 + 1, 0, none⟩ = some (.int .i64 bx) ∧ w'.cell? ⟨W.heap.size + 1 + 1, 1, none⟩ = some (.int .i64 b_y))
    (first | ((go_split_ands; refine ⟨?_, ?_, ?_, ?_, ?_⟩ <;> exact (hb'.cell (p := ⟨_, _, none⟩) (by first | omega | (simp; omega) | simp)).trans (by assumption))) | go_keep)
    (first
      | (go_at_call 17; refine (TO.out _ (Ext.draw B1) M.out).mono ?_; rintro e w2 ⟨A2, c2, vs2, rfl, x2, hb'⟩; have hs2 := hb'; have hc2 := hb'; have z2 : w1.heap.size ≤ w2.heap.size := hb'.size)
      | (go_at_call_of 18 (Value.agg #[Value.int .i64 ax, Value.int .i64 ay]); refine (TSa.out _).mono ?_; rintro e w3a ⟨rfl, hb'⟩; have hsa := hb'; have hc3a := Ext.then_ hc2 hb'; have z3a : w2.heap.size ≤ w3a.heap.size := hb'.size)
      | (go_at_call_of 18 (Value.agg #[Value.int .i64 bx, Value.int .i64 b_y]); refine (TSb.out _).mono ?_; rintro e w3b ⟨rfl, hb'⟩; have hsb := hb'; have hc3b := Ext.then_ hc3a hb'; have z3b : w3a.heap.size ≤ w3b.heap.size := hb'.size)
      | (go_at_call 34; refine (SP.out _ _ _ ((x2.ext hsa).ext hsb).rd M.out).mono ?_; rintro e w4 ⟨rfl, hb⟩; have hb' := hb))
  have hq := Ext.undraw (Ext.then_ hc3b hb)
  have hsz : w3b.heap.size ≤ w4.heap.size := hb.size
  clear hb hb' hs2 hc2 x2 hsa hc3a hsb hc3b
  have hb := hq
  clear hq
  clear zTA zTa zTb
  clear kTA kTa lTa kTb lTb
  replace B1 := Ext.then_ B1 hb
  replace TA := TA.under hb TA.lt
  replace Ta := Ta.under hb Ta.lt
  replace Tb := Tb.under hb Tb.lt
  clear hb
  have kTA := TA.cell 0
  simp at kTA
  go_wp2_with fail
  refine (TO.out _ B1 M.out).mono ?_
  rintro e w5 ⟨A5, c5, vs5, rfl, x5, hb⟩
  clear kTA
  have z5 := hb.size
  have hbx := Ext.more hb (.cells #[.slice A5 n_gr c5] 31)
  replace B1 := Ext.then_ B1 hbx
  replace TA := TA.under hbx TA.lt
  replace Ta := Ta.under hbx Ta.lt
  replace Tb := Tb.under hbx Tb.lt
  have TX := Blk.made w5 31 #[.slice A5 n_gr c5]
  replace x5 := x5.ext (Ext.more (Ext.refl _) (.cells #[.slice A5 n_gr c5] 31))
  clear hb hbx
  go_wp2_with fail
  generalize w5.alloc (.cells #[.slice A5 n_gr c5] 31) = V5 at *
  have y5 := TX.lt
  have kTX := TX.cell 0
  have kTa := Ta.cell 0
  have lTa := Ta.cell 1
  have kTb := Tb.cell 0
  have lTb := Tb.cell 1
  simp at kTX kTa lTa kTb lTb
  have zTX := TX.lt
  have zTa := Ta.lt
  have zTb := Tb.lt
  go_region_held3 (fun w' => w'.cell? ⟨w5.heap.size, 0, none⟩ = some (.slice A5 n_gr c5) ∧ w'.cell? ⟨W.heap.size + 1, 0, none⟩ = some (.int .i64 ax) ∧ w'.cell? ⟨W.heap.size + 1, 1, none⟩ = some (.int .i64 ay) ∧ w'.cell? ⟨W.heap.size + 1 + 1, 0, none⟩ = some (.int .i64 bx) ∧ w'.cell? ⟨W.heap.size + 1 + 1, 1, none⟩ = some (.int .i64 b_y))
    (first | ((go_split_ands; refine ⟨?_, ?_, ?_, ?_, ?_⟩ <;> exact (hb'.cell (p := ⟨_, _, none⟩) (by first | omega | (simp; omega) | simp)).trans (by assumption))) | go_keep)
    (first
      | (go_at_call_of 18 (Value.agg #[Value.int .i64 ax, Value.int .i64 ay]); refine (TSa.out _).mono ?_; rintro e w6a ⟨rfl, hb'⟩; have hsa := hb'; have hc6a := hb'; have z6a : V5.heap.size ≤ w6a.heap.size := hb'.size)
      | (go_at_call_of 18 (Value.agg #[Value.int .i64 bx, Value.int .i64 b_y]); refine (TSb.out _).mono ?_; rintro e w6b ⟨rfl, hb'⟩; have hsb := hb'; have hc6b := Ext.then_ hc6a hb'; have z6b : w6a.heap.size ≤ w6b.heap.size := hb'.size)
      | (go_at_call 35; refine (IM.out _ _ _ ((x5.ext (Ext.undraw hsa)).ext hsb).rd M.out).mono ?_; rintro e w7 ⟨rfl, hb⟩; have hb' := hb))
  have hq := Ext.undraw (Ext.then_ hc6b hb)
  have hsz2 : w6b.heap.size ≤ w7.heap.size := hb.size
  clear hb hb' hsa hc6a hsb hc6b
  have hb := hq
  clear hq
  clear zTX zTa zTb
  clear kTX kTa lTa kTb lTb
  replace B1 := Ext.then_ B1 hb
  replace TA := TA.under hb TA.lt
  replace Ta := Ta.under hb Ta.lt
  replace Tb := Tb.under hb Tb.lt
  replace TX := TX.under hb TX.lt
  replace x5 := x5.ext hb
  have z7 := hb.size
  clear hb
  have q1 : (R1 != R1) = false := by simp
  have kTX := TX.cell 0
  have kTA := TA.cell 0
  simp at kTX kTA
  have zz1 := TX.lt
  have zz2 := TA.lt
  go_wp2_with fail
  go_region_held3 (fun w' => w'.cell? ⟨w5.heap.size, 0, none⟩ = some (.slice A5 n_gr c5) ∧ w'.cell? ⟨W.heap.size, 0, none⟩ = some (.slice A n_gr c))
    (first | ((go_split_ands; refine ⟨?_, ?_⟩ <;> exact (hb'.cell (p := ⟨_, _, none⟩) (by first | omega | (simp; omega) | simp)).trans (by assumption))) | go_keep)
    (first
      | (go_at_call 17; refine (TO.out _ (Ext.draw B1) M.out).mono ?_; rintro e w8 ⟨A8, c8, vs8, rfl, x8, hb'⟩; have hs8 := hb'; have z8 : w7.heap.size ≤ w8.heap.size := hb'.size)
      | (go_at_call 21; refine (EX.out _ _ _ _ _ (x5.ext (Ext.undraw hb')).rd x8.rd M.out).mono ?_; rintro e w9 ⟨rfl, hb'⟩))
  have hb := Ext.undraw (Ext.then_ hs8 hb')
  replace B1 := Ext.then_ B1 hb
  go_wp2_with fail
  go_ret
  exact ⟨rfl, B1⟩
end Go.Proofs.Ytajepoopicoodaa
