/- Trees of squares: the program's codes. -/
import Derived.Test.YtogefmkplkddoaaDoorTrI
import Derived.Test.YtogefmkplkddoaaDoorBts
namespace Go.Proofs.YtogefmkplkddoaaDoor
open Go.RowKit

def sdB (s : Int) : Bool := s == 1 || (s == 2 || (s == 4 || (s == 8 || s == 16)))
def sdN (s : Int) : Nat := if s = 1 then 0 else if s = 2 then 1 else if s = 4 then 2 else if s = 8 then 3 else 4
theorem sdB_iff {s : Int} (h : sdB s = true) : sdN s ≤ 4 ∧ s = ((2 ^ sdN s : Nat) : Int) := by
  simp only [sdB, Bool.or_eq_true, beq_iff_eq] at h
  rcases h with rfl | rfl | rfl | rfl | rfl <;> decide
/-- The tree with a side and a text. -/
def trO (s : Int) (t : ByteArray) : Option QT := if sdB s then match rd true (sdN s) t.data.toList with
    | some (T, []) => some T
    | _ => none
  else none
theorem trO_side {s : Int} {t : ByteArray} (h : sdB s = false) : trO s t = none := by rw [trO, h]; rfl
theorem trO_none {s : Int} {t : ByteArray} (h : rd true (sdN s) t.data.toList = none) : trO s t = none := by
  rw [trO]; split
  · rw [h]
  · rfl
theorem trO_more {s : Int} {t : ByteArray} {T : QT} {r : List UInt8} (h : rd true (sdN s) t.data.toList = some (T, r)) (hr : r ≠ []) : trO s t = none := by
  rw [trO]; split
  · rw [h]
    cases r with
    | nil => exact absurd rfl hr
    | cons a r => rfl
  · rfl
theorem trO_some {s : Int} {t : ByteArray} {T : QT} (hs : sdB s = true) (h : rd true (sdN s) t.data.toList = some (T, [])) : trO s t = some T := by
  rw [trO, hs, if_pos rfl, h]
theorem trO_facts {s : Int} {t : ByteArray} {T : QT} (h : trO s t = some T) : sdB s = true ∧ t.data.toList = T.txt ∧ T.fits (sdN s) = true ∧ T.nrm = true := by
  rw [trO] at h
  split at h
  · rename_i hs
    split at h
    · rename_i S hr
      cases h
      obtain ⟨h1, h2, h3⟩ := rd_some _ _ _ _ hr
      exact ⟨hs, by simpa using h1, h2, h3 rfl⟩
    · cases h
  · cases h
theorem trO_of {s : Int} {t : ByteArray} {T : QT} (hs : sdB s = true) (ht : t.data.toList = T.txt) (hf : T.fits (sdN s) = true) (hn : T.nrm = true) : trO s t = some T := by
  refine trO_some hs ?_
  rw [ht]
  have := rd_txt (k := true) (sdN s) T [] hf (fun _ => hn)
  simpa using this
set_option maxHeartbeats 400000 in
theorem index_any (g c : Nat) (L : List Int) (v : Int) (w : World) (h : IntAt w g L) (hn : L.length ≤ 1000000) :
    Calls Tryd.prog 109 #[.slice (some ⟨g, 0, none⟩) L.length c, .int .i64 v] w fun e w' => (∃ i : Int, e = .returned (.int .i64 i) ∧ (0 ≤ i ↔ v ∈ L)) ∧ w = w' := by
  have CE := Lib.hid h.2
  have CT : Hid (∀ k (hk : k < L.length), L[k] = v → v ∈ L) := fun k hk e => by
    rw [← e]; exact List.getElem_mem hk
  have CN : Hid ((∀ k (hk : k < L.length), L[k] ≠ v) → v ∉ L) := fun h hm => by
    obtain ⟨i, hi, e⟩ := List.getElem_of_mem hm
    exact absurd e (h i hi)
  obtain ⟨n, hnL⟩ : ∃ n, L.length = n := ⟨_, rfl⟩
  have HNL := Lib.hid hnL
  rw [hnL] at hn ⊢
  clear h hnL
  go_enter Tryd.func109, Tryd.ntmps109
  go_wp2_with fail
  go_loop [5, 8] (fun _ i => ∃ k : Nat, k ≤ n ∧ i = .int .i64 k ∧ Hid (∀ j (h : j < L.length), j < k → L[j] ≠ v)) (fun _ i => n - (intOf i).toNat)
  case atStart => exact ⟨0, Nat.zero_le _, rfl, fun _ _ h => absurd h (Nat.not_lt_zero _)⟩
  case round =>
    obtain ⟨k, hk, rfl, hno⟩ := hrel
    by_cases hlt : k < n
    · have hkl : k < L.length := by have := HNL.out; omega
      have c1 := (CE.out k hkl)
      have i0 : (0 : Int) ≤ (k : Int) := by omega
      have i1 : (k : Int) < (n : Int) := by omega
      by_cases hv : L[k] = v
      · have R := Lib.hid (CT.out k hkl hv)
        rw [hv] at c1
        clear hv
        go_wp2_with fail
        go_ret
        exact ⟨⟨(k : Int), rfl, fun _ => R.out, fun _ => i0⟩, rfl⟩
      · have N2 : Hid (∀ j (h : j < L.length), j < k + 1 → L[j] ≠ v) := fun j h hj => by
          rcases Nat.lt_succ_iff_lt_or_eq.1 hj with h1 | rfl
          · exact hno.out j h h1
          · exact hv
        obtain ⟨u, hu⟩ : ∃ u, L[k] = u := ⟨_, rfl⟩
        rw [hu] at c1 hv
        have hvb : (v == u) = false := by rw [beq_eq_false_iff_ne]; exact fun e => hv e.symm
        clear hu hv
        go_wp2_with fail
        go_round
        case rel => exact ⟨k + 1, by omega, by go_num, N2⟩
        case measure => simp [intOf]; omega
    · have R := Lib.hid (CN.out (fun j h => hno.out j h (by have := HNL.out; omega)))
      have hkn : k = n := by omega
      have i1 : ¬ (k : Int) < (n : Int) := by omega
      go_wp2_with fail
      go_ret
      exact ⟨⟨-1, rfl, fun h => absurd h (by decide), fun h => absurd h R.out⟩, rfl⟩
set_option maxHeartbeats 400000 in
theorem contains_any (g c : Nat) (L : List Int) (v : Int) (w : World) (h : IntAt w g L) (hn : L.length ≤ 1000000) :
    Calls Tryd.prog 95 #[.slice (some ⟨g, 0, none⟩) L.length c, .int .i64 v] w fun e w' => e = .returned (.bool (decide (v ∈ L))) ∧ w = w' := by
  have C := Lib.hid (index_any g c L v w h hn)
  generalize L.length = n at *
  clear h
  go_enter Tryd.func95, Tryd.ntmps95
  go_wp2_with fail
  refine (C.out).mono ?_
  rintro e w' ⟨⟨i, rfl, hi⟩, rfl⟩
  have HI := Lib.hid hi
  clear hi
  go_wp2_with fail
  go_ret
  exact ⟨by rw [← decide_eq_decide.2 HI.out]; rfl, rfl⟩
set_option maxHeartbeats 400000 in
theorem sideOkI_any (s : Int) (w : World) : Calls Tryd.prog 61 #[.int .i64 s] w fun e w' => e = .returned (.bool (sdB s)) ∧ Below w.heap.size w w' := by
  obtain ⟨w1, hw1⟩ : ∃ w1, w.alloc (.cells #[.int .i64 1, .int .i64 2, .int .i64 4, .int .i64 8, .int .i64 16] 2) = w1 := ⟨_, rfl⟩
  have T1 : Blk w1 w.heap.size 2 #[.int .i64 1, .int .i64 2, .int .i64 4, .int .i64 8, .int .i64 16] := by rw [← hw1]; exact Blk.made _ _ _
  have B1 : Below w.heap.size w w1 := by rw [← hw1]; exact Ext.more (Ext.refl _) _
  have HW := Lib.hid hw1
  have C := Lib.hid (contains_any w.heap.size 5 [1, 2, 4, 8, 16] s w1 ⟨T1.lt, fun i hi => by
    have := T1.cell i
    rcases (show i = 0 ∨ i = 1 ∨ i = 2 ∨ i = 3 ∨ i = 4 by simp at hi; omega) with rfl | rfl | rfl | rfl | rfl <;> simpa using this⟩ (by decide))
  have e : decide (s ∈ [1, 2, 4, 8, 16]) = sdB s := by rw [Bool.eq_iff_iff]; simp [sdB]
  rw [e] at C
  have HC : Hid (Calls Tryd.prog 95 #[.slice (some ⟨w.heap.size, 0, none⟩) 5 5, .int .i64 s] w1 fun e w' => e = .returned (.bool (sdB s)) ∧ w1 = w') := C.out
  generalize sdB s = β at *
  clear hw1 e C
  go_enter Tryd.func61, Tryd.ntmps61
  go_wp2_with fail
  try simp only [HW.out]
  refine HC.out.mono ?_
  rintro e w' ⟨rfl, rfl⟩
  go_wp2_with fail
  go_ret
  exact ⟨rfl, B1⟩
theorem oneIfT_any (b : Bool) (w : World) : Calls Tryd.prog 66 #[.bool b] w fun e w' => e = .returned (.int .i64 (if b then 1 else 0)) ∧ w = w' := by
  cases b
  · go_enter Tryd.func66, Tryd.ntmps66
    go_wp2
    go_ret
    exact ⟨rfl, rfl⟩
  · go_enter Tryd.func66, Tryd.ntmps66
    go_wp2
    go_ret
    exact ⟨rfl, rfl⟩
/-- A call has returned the leaves of a tree, and whether it is one. -/
def LvRes (w : World) (s : Int) (t : ByteArray) (e : Ending) (w' : World) : Prop :=
  Below w.heap.size w w' ∧ match trO s t with
    | none => ∃ A m c, e = .returned (.tuple #[.slice A m c, .bool false])
    | some T => ∃ g c, e = .returned (.tuple #[.slice (some ⟨g, 0, none⟩) (T.lf (sdN s) 0 0 ByteArray.empty).length c, .bool true]) ∧
        w'.ownsRow w.heap.size 91 5 (.slice (some ⟨g, 0, none⟩) (T.lf (sdN s) 0 0 ByteArray.empty).length c) (T.lf (sdN s) 0 0 ByteArray.empty).length (lfC (T.lf (sdN s) 0 0 ByteArray.empty))
theorem LvRes.no {w w' : World} {s : Int} {t : ByteArray} {A : Option Addr} {m c : Nat} (hb : Below w.heap.size w w') (h : trO s t = none) : LvRes w s t (.returned (.tuple #[.slice A m c, .bool false])) w' := by
  refine ⟨hb, ?_⟩
  rw [h]
  exact ⟨A, m, c, rfl⟩
set_option maxHeartbeats 1000000 in
theorem leavesOf_any (s : Int) (t : ByteArray) (w : World) (ht : t.size ≤ 1048576) :
    Calls Tryd.prog 63 #[.agg #[.int .i64 s, .string t]] w (LvRes w s t) := by
  obtain ⟨w1, hw1⟩ : ∃ w1, w.alloc (.cells #[.int .i64 s, .string t] 45) = w1 := ⟨_, rfl⟩
  have T1 : Blk w1 w.heap.size 45 #[.int .i64 s, .string t] := by rw [← hw1]; exact Blk.made _ _ _
  have B1 : Below w.heap.size w w1 := by rw [← hw1]; exact Ext.more (Ext.refl _) _
  have HW := Lib.hid hw1
  have c0 := T1.cell 0
  have c1 := T1.cell 1
  simp at c0 c1
  have SO := Lib.hid (sideOkI_any s w1)
  have tl := T1.lt
  clear hw1
  cases hs : sdB s
  · have F := Lib.hid (trO_side (t := t) hs)
    rw [hs] at SO
    go_enter Tryd.func63, Tryd.ntmps63
    go_wp2_with fail
    try simp only [HW.out]
    refine SO.out.mono ?_
    rintro e w2 ⟨rfl, hb2⟩
    have B2 := Ext.then_ B1 hb2
    go_wp2_with fail
    go_ret2
    exact LvRes.no B2 F.out
  · rw [hs] at SO
    obtain ⟨hn4, hsn⟩ := sdB_iff hs
    have RS := Lib.hid (fun w => readSq_any t ht (sdN s) hn4 (2 ^ sdN s) 0 0 0 ByteArray.empty w rfl (by omega) (by have : 2 ^ sdN s ≤ 2 ^ 4 := Nat.pow_le_pow_right (by decide) hn4; omega) (by have : 2 ^ sdN s ≤ 2 ^ 4 := Nat.pow_le_pow_right (by decide) hn4; omega) (by show 0 + sdN s ≤ 100; omega))
    rw [← hsn] at RS
    have HSD := Lib.hid hs
    clear hsn hn4 hs
    go_enter Tryd.func63, Tryd.ntmps63
    go_wp2_with fail
    try simp only [HW.out]
    refine SO.out.mono ?_
    rintro e w2 ⟨rfl, hb2⟩
    have T2 := T1.under hb2 T1.lt
    have B2 := Ext.then_ B1 hb2
    have c0 := T2.cell 0
    have c1 := T2.cell 1
    simp at c0 c1
    go_wp2_with fail
    refine (RS.out _).mono ?_
    rintro e w3 ⟨hb3, hm3⟩
    have T3 := T2.under hb3 T2.lt
    have B3 := Ext.then_ B2 hb3
    have c0 := T3.cell 0
    have c1 := T3.cell 1
    simp at c0 c1
    clear T1 T2 T3 RS SO
    rw [List.drop_zero] at hm3
    cases hrd : rd true (sdN s) t.data.toList with
    | none =>
      have F := Lib.hid (trO_none hrd)
      rw [hrd] at hm3
      subst hm3
      have q1 : ((-1 : Int) == (t.size : Int)) = false := by rw [beq_eq_false_iff_ne]; omega
      clear hrd
      go_wp2_with fail
      go_region
      all_goals
        go_wp2_with fail
        go_ret2
        exact LvRes.no (Ext.draw B3) F.out
    | some z =>
      obtain ⟨T, r⟩ := z
      rw [hrd] at hm3
      obtain ⟨g, c, rfl, ho⟩ := hm3
      have hx := (rd_some _ _ _ _ hrd).1
      by_cases hr : r = []
      · subst hr
        have F := trO_some HSD.out hrd
        rw [List.length_nil, Nat.sub_zero]
        have RY : Hid (∀ V, World.ownsRow V w2.heap.size 91 5 (.slice (some ⟨g, 0, none⟩) (T.lf (sdN s) 0 0 ByteArray.empty).length c) (T.lf (sdN s) 0 0 ByteArray.empty).length (lfC (T.lf (sdN s) 0 0 ByteArray.empty)) → Below w.heap.size w V → LvRes w s t (.returned (.tuple #[.slice (some ⟨g, 0, none⟩) (T.lf (sdN s) 0 0 ByteArray.empty).length c, .bool true])) V) := fun V h1 h2 => by
          refine ⟨h2, ?_⟩
          rw [F]
          exact ⟨g, c, rfl, own_base h1 B2.size⟩
        have HO := Lib.hid ho
        clear hrd F ho hx
        generalize (T.lf (sdN s) 0 0 ByteArray.empty).length = m at *
        generalize lfC (T.lf (sdN s) 0 0 ByteArray.empty) = LC at *
        go_wp2_with fail
        go_region
        all_goals
          go_wp2_with fail
          go_ret2
          refine RY.out _ ?_ ?_
          · exact HO.out
          · exact Ext.draw B3
      · have F := Lib.hid (trO_more hrd hr)
        have q1 : (((t.size - r.length : Nat) : Int) == (t.size : Int)) = false := by
          rw [beq_eq_false_iff_ne]
          have h1 : 0 < r.length := List.length_pos_iff.2 hr
          have h2 := congrArg List.length hx
          rw [List.length_append] at h2
          have h3 : t.data.toList.length = t.size := rfl
          omega
        clear hrd ho hx hr
        generalize (T.lf (sdN s) 0 0 ByteArray.empty).length = m at *
        generalize ((t.size - r.length : Nat) : Int) = q at *
        go_wp2_with fail
        go_region
        all_goals
          go_wp2_with fail
          go_ret2
          exact LvRes.no (Ext.draw B3) F.out
end Go.Proofs.YtogefmkplkddoaaDoor
