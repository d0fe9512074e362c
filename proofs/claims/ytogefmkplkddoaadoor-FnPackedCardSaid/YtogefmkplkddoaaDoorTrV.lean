/- Trees of squares: the list of the leaves. -/
import Derived.Test.YtogefmkplkddoaaDoorTrK
import Derived.Test.YtogefmkplkddoaaDoorNumO
import Derived.Test.YtogefmkplkddoaaDoorHQ
namespace Go.Proofs.YtogefmkplkddoaaDoor
open Go.RowKit

def lfR (l : Lf) : List Int := [(l.x : Int), (l.y : Int), (l.s : Int), if l.b then 1 else 0]
theorem lfM_take {L : List Lf} {k : Nat} (h : k < L.length) : (L.take (k + 1)).map lfR = (L.take k).map lfR ++ [lfR L[k]] := by
  rw [List.take_succ_eq_append_getElem h, List.map_append]; rfl
set_option maxRecDepth 100000 in
set_option maxHeartbeats 4000000 in
theorem leavesOfI_any (s : Int) (t : ByteArray) (T : QT) (w : World) (ht : t.size ≤ 1048576) (hT : trO s t = some T) (hL : (T.lf (sdN s) 0 0 ByteArray.empty).length ≤ 256) (hsm : ∀ l ∈ T.lf (sdN s) 0 0 ByteArray.empty, l.x ≤ 1000 ∧ l.y ≤ 1000 ∧ l.s ≤ 1000) :
    Calls Tryd.prog 34 #[.agg #[.int .i64 s, .string t]] w fun e w' => ∃ A c vs, e = .returned (.tuple #[.slice A (T.lf (sdN s) 0 0 ByteArray.empty).length c, .bool true]) ∧
      MatAt w' w.heap.size w'.heap.size A c vs ((T.lf (sdN s) 0 0 ByteArray.empty).map lfR) ∧ Below w.heap.size w w' := by
  obtain ⟨w1, hw1⟩ : ∃ w1, w.alloc (.cells #[.int .i64 s, .string t] 45) = w1 := ⟨_, rfl⟩
  have T1 : Blk w1 w.heap.size 45 #[.int .i64 s, .string t] := by rw [← hw1]; exact Blk.made _ _ _
  have B1 : Below w.heap.size w w1 := by rw [← hw1]; exact Ext.more (Ext.refl _) _
  have HW := Lib.hid hw1
  have c0 := T1.cell 0
  have c1 := T1.cell 1
  simp at c0 c1
  have LV := leavesOf_any s t w1 ht
  clear hw1
  have LV2 : Hid (Calls Tryd.prog 63 #[.agg #[.int .i64 s, .string t]] w1 fun e w' => ∃ g c, e = .returned (.tuple #[.slice (some ⟨g, 0, none⟩) (T.lf (sdN s) 0 0 ByteArray.empty).length c, .bool true]) ∧
        w'.ownsRow w1.heap.size 91 5 (.slice (some ⟨g, 0, none⟩) (T.lf (sdN s) 0 0 ByteArray.empty).length c) (T.lf (sdN s) 0 0 ByteArray.empty).length (lfC (T.lf (sdN s) 0 0 ByteArray.empty)) ∧ Below w1.heap.size w1 w') := by
    refine LV.mono ?_
    rintro e w' ⟨h1, h2⟩
    rw [hT] at h2
    obtain ⟨g, c, h3, h4⟩ := h2
    exact ⟨g, c, h3, h4, h1⟩
  clear LV
  generalize T.lf (sdN s) 0 0 ByteArray.empty = L at *
  have HSM := Lib.hid hsm
  have TK := Lib.hid (fun k (h : k < L.length) => lfM_take h)
  obtain ⟨m, hm⟩ : ∃ m, L.length = m := ⟨_, rfl⟩
  have HM := Lib.hid hm
  rw [hm] at LV2 hL ⊢
  clear hm hsm
  go_enter Tryd.func34, Tryd.ntmps34
  go_wp2_with fail
  try simp only [HW.out]
  refine LV2.out.mono ?_
  rintro e w2 ⟨g, c, rfl, ho, hb2⟩
  have B2 := Ext.then_ B1 hb2
  have CE : Hid (∀ V, Below w2.heap.size w2 V → ∀ j u, (lfC L)[j]? = some u → V.cell? ⟨g, j, none⟩ = some u) := fun V hV j u hj => by
    refine (hV.cell (p := ⟨g, j, none⟩) (ho.lt g rfl).2).trans ?_
    have hjl : j < (lfC L).length := by
      by_cases h : j < (lfC L).length
      · exact h
      · rw [List.getElem?_eq_none (by omega)] at hj; cases hj
    rw [ho.cellAt j (by rw [lfC_len, HM.out] at hjl; omega)]
    exact hj
  have gl := (ho.lt g rfl).2
  have B23 : Below w2.heap.size w2 (w2.alloc (.cells #[] 22)) := Ext.more (Ext.refl w2) _
  have hrow0 := World.ownsRow_lit (e := 22) (size := 1) w2 #[] 0 (Nat.le_refl _) (by decide) rfl
  have M0 : MatAt (w2.alloc (.cells #[] 22)) w2.heap.size (w2.alloc (.cells #[] 22)).heap.size (some ⟨w2.heap.size, 0, none⟩) 0 [] ((L.take 0).map lfR) := MatAt.nil _ _ _ _ _ hrow0 (fun a ha => by cases ha; simp)
  clear c0 c1 T1 B1 LV2 hb2 ho hrow0 HW
  go_wp2_with fail
  generalize w2.alloc (.cells #[] 22) = w3 at *
  go_loopw [6, 8, 19] (fun v _ i wr => ∃ (k c : Nat) (A : Option Addr) (vs : List Value), k ≤ m ∧ i = .int .i64 k ∧ v = .slice A k c ∧ MatAt wr w2.heap.size wr.heap.size A c vs ((L.take k).map lfR) ∧ Below w2.heap.size w2 wr) (fun _ _ i _ => m - (intOf i).toNat)
  case atStart => exact ⟨0, _, _, _, Nat.zero_le _, rfl, rfl, M0, B23⟩
  case round =>
    obtain ⟨k, c, A, vs, hk, rfl, rfl, hM, hb2⟩ := hrel
    clear M0 B23
    by_cases hlt : k < m
    · have hkl : k < L.length := by rw [HM.out]; exact hlt
      obtain ⟨l, hl⟩ : ∃ l, L[k] = l := ⟨_, rfl⟩
      have CA := fun j (hj : j < 5) u (hu : (lfV l)[j]? = some u) => CE.out wr hb2 (k * 5 + j) u (by rw [lfC_at L k hkl j hj, hl]; exact hu)
      have c0 := CA 0 (by decide) _ rfl
      have c1 := CA 1 (by decide) _ rfl
      have c2 := CA 2 (by decide) _ rfl
      have c3 := CA 3 (by decide) _ rfl
      have c4 := CA 4 (by decide) _ rfl
      rw [Nat.add_zero] at c0
      obtain ⟨s1, s2, s3⟩ := HSM.out l (by rw [← hl]; exact List.getElem_mem _)
      have TKk := TK.out k hkl
      rw [hl] at TKk
      have lk : ((L.take k).map lfR).length = k := by rw [List.length_map, List.length_take]; omega
      have HTK := Lib.hid TKk
      have HM1 := Lib.hid hM
      have HLK := Lib.hid lk
      have i0 : (0 : Int) ≤ (k : Int) := by omega
      have i1 : (k : Int) < (m : Int) := by omega
      obtain ⟨lx, ly, ls, lb, la⟩ := l
      simp only at s1 s2 s3 c0 c1 c2 c3 c4
      have N4 : Blk (wr.alloc (.cells #[.int .i64 lx, .int .i64 ly, .int .i64 ls, .bool lb, .string la] 91)) wr.heap.size 91 #[.int .i64 lx, .int .i64 ly, .int .i64 ls, .bool lb, .string la] := Blk.made _ _ _
      have R4 : Below wr.heap.size wr (wr.alloc (.cells #[.int .i64 lx, .int .i64 ly, .int .i64 ls, .bool lb, .string la] 91)) := Ext.more (Ext.refl _) _
      obtain ⟨w4, hw4⟩ : ∃ w4, wr.alloc (.cells #[.int .i64 lx, .int .i64 ly, .int .i64 ls, .bool lb, .string la] 91) = w4 := ⟨_, rfl⟩
      rw [hw4] at N4 R4
      have HW4 := Lib.hid hw4
      have d0 := N4.cell 0
      have d1 := N4.cell 1
      have d2 := N4.cell 2
      have d3 := N4.cell 3
      simp at d0 d1 d2 d3
      clear hw4 CA hl TKk hM lk
      go_wp2_with fail
      try simp only [HW4.out]
      have OI := Lib.hid (fun V => oneIfT_any lb V)
      obtain ⟨bi, hbi⟩ : ∃ bi : Int, (if lb then (1 : Int) else 0) = bi := ⟨_, rfl⟩
      rw [hbi] at OI
      have HBI := Lib.hid hbi
      have hou := HM1.out.outer
      rw [HLK.out] at hou
      have hou4 := (own_ext R4 hou)
      have hsz := hb2.size
      clear hbi
      have OIB : Hid (∀ V, Calls Tryd.prog 66 #[.bool lb] V fun e w' => e = .returned (.int .i64 bi) ∧ Below V.heap.size V w') := fun V => (OI.out V).mono fun _ _ ⟨h, k⟩ => ⟨h, by rw [← k]; exact Ext.refl _⟩
      clear OI
      have hz4 := R4.size
      have nl := N4.lt
      have hneA : (Value.slice A k c).ownBlock ≠ some wr.heap.size := fun e => by have := (hou.lt _ e).2; omega
      go_region_held3 (fun w' => w'.cell? ⟨wr.heap.size, 0, none⟩ = some (.int .i64 lx) ∧ w'.cell? ⟨wr.heap.size, 1, none⟩ = some (.int .i64 ly) ∧ w'.cell? ⟨wr.heap.size, 2, none⟩ = some (.int .i64 ls) ∧ w'.cell? ⟨wr.heap.size, 3, none⟩ = some (.bool lb))
        (first | ((go_split_ands; refine ⟨?_, ?_, ?_, ?_⟩ <;> exact (hb'.cell (p := ⟨_, _, none⟩) nl).trans (by assumption))) | ((go_split_ands; refine ⟨?_, ?_, ?_, ?_⟩ <;> exact (hgrow3.cell_far ⟨_, _, none⟩ (by have := hb'.size; simp at *; omega) (fun e => hneA e.symm)).trans (cell_more (by have := hb'.size; simp at *; omega) (cell_more (by have := hb'.size; simp at *; omega) (by first | assumption | exact (hb'.cell (p := ⟨_, _, none⟩) nl).trans (by assumption)))))) | go_keep)
        (first
          | (refine step_app rowT (by rfl) _ _ (by rfl) w2.heap.size (.slice A k c) k vs (by rfl) (((own_ext hb' hou4).alloc _).alloc _) (w5.heap.size + 1) #[.slice (some ⟨w5.heap.size, 0, none⟩) 4 4] (by rfl) (by have := heap_alloc_new (w5.alloc (.cells #[.int .i64 lx, .int .i64 ly, .int .i64 ls, .int .i64 bi] 2)) (.cells #[.slice (some ⟨w5.heap.size, 0, none⟩) 4 4] 22); rwa [World.size_alloc] at this) rfl (by simp [Value.oneCell']) (by omega) (by have := hb'.size; simp at *; omega) ?_; intro g3 cap3 w6 hown3 hgrow3 hat3 hlt3)
          | (go_at_call 66; refine (OIB.out _).mono ?_; rintro e w5 ⟨rfl, hb'⟩))
      have HR : Hid (lfR ⟨lx, ly, ls, lb, la⟩ = [(lx : Int), (ly : Int), (ls : Int), bi]) := by rw [Hid, ← HBI.out]; rfl
      have PU : Hid (MatAt w6 w2.heap.size w6.heap.size (some ⟨g3, 0, none⟩) cap3 (vs ++ [.slice (some ⟨w5.heap.size, 0, none⟩) ([(lx : Int), (ly : Int), (ls : Int), bi] : List Int).length 4]) ((L.take k).map lfR ++ [[(lx : Int), (ly : Int), (ls : Int), bi]])) :=
        MatAt.push HM1.out (Ext.then_ (Ext.then_ (Ext.draw R4) hb') (Ext.more (Ext.refl w5) _)) (own_base (World.ownsRow_lit (e := 2) (size := 1) w5 #[.int .i64 lx, .int .i64 ly, .int .i64 ls, .int .i64 bi] 4 (Nat.le_refl _) (by decide) rfl) (by have := hb'.size; simp at *; omega)) hsz (Nat.le_refl _) (by rw [HLK.out]; exact hgrow3) (by rw [HLK.out]; simpa using hown3)
      have B26 : Below w2.heap.size w2 w6 := (((Ext.then_ (Ext.then_ hb2 (Ext.draw R4)) hb').alloc (by have := hb'.size; simp at *; omega) _).alloc (by have := hb'.size; simp at *; omega) _).grown hgrow3 (by have := hb'.size; simp at *; omega) (fun z hz => (hou.lt z hz).1)
      clear hown3 hgrow3 hat3 hou
      go_wp2_with fail
      go_roundw
      case rel => exact ⟨k + 1, cap3, some ⟨g3, 0, none⟩, _, by omega, by go_num, rfl, by rw [HTK.out, HR.out]; exact PU.out, B26⟩
      case measure => simp [intOf]; omega
    · obtain rfl : k = m := by omega
      have HMM := Lib.hid hM
      have TA : Hid (L.take k = L) := by rw [Hid, ← HM.out]; exact List.take_length
      clear hM
      go_wp2_with fail
      go_ret2
      exact ⟨A, c, vs, rfl, by have M1 := HMM.out; rw [TA.out] at M1; exact M1.low B2.size (Nat.le_refl _), Ext.then_ B2 hb2⟩
end Go.Proofs.YtogefmkplkddoaaDoor
