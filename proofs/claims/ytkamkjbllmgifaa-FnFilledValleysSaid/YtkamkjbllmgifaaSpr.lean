/- The program's search from a place over places that a function value calls right. -/
import Derived.Test.YtkamkjbllmgifaaRch
import Derived.Test.YtkamkjbllmgifaaArd
import Derived.Test.YtkamkjbllmgifaaMapR
import Derived.Test.YtkamkjbllmgifaaQue
import Derived.Deep.LoopGhost
import Derived.Deep.RegionHeld3
namespace Go.Proofs.Ytkamkjbllmgifaa
open Go.RowKit

theorem zeroBool' (w : World) : (zeroValue 4).run Try.prog w = .ok (.bool false) w := by kernel_rfl
/-- What a map of places holds. -/
def bv (f : Int × Int → Option Nat) : Int × Int → Option Value := fun s => (f s).map fun _ => Value.bool true
theorem bv_put (f : Int × Int → Option Nat) (q : Int × Int) (d : Nat) : bv (fun x => if x = q then some d else f x) = putF (bv f) q (.bool true) := by
  funext s
  by_cases h : s = q <;> simp [bv, putF, h]
theorem SpAt.grown2 {w w' : World} {g : Nat} {L : List (Int × Int)} (h : SpAt w g L) {row : Option Nat} (hg : w.grownBy w' row) (hne : some g ≠ row) : SpAt w' g L := by
  refine ⟨Nat.lt_of_lt_of_le h.1 hg.size, fun i hi => ⟨?_, ?_⟩⟩
  · exact (hg.cell_far ⟨g, _, none⟩ h.1 hne).trans (h.2 i hi).1
  · exact (hg.cell_far ⟨g, _, none⟩ h.1 hne).trans (h.2 i hi).2
set_option maxRecDepth 100000 in
set_option maxHeartbeats 2000000 in
/-- The search's queue and map in memory. -/
structure SrI (w7 : World) (st : BS (Int × Int)) (i g o cap : Nat) (wr : World) : Prop where
  que : Que wr (w7.heap.size + 1) 39 2 g o (st.Q.length - i) cap (spL (st.Q.drop i))
  map : MapF spV spOk wr w7.heap.size (bv st.f)
  ext : Below w7.heap.size w7 wr
theorem SrI.step {w7 : World} {st : BS (Int × Int)} {i g o cap : Nat} {wr w' : World} (h : SrI w7 st i g o cap wr) (hb : Below wr.heap.size wr w') : SrI w7 st i g o cap w' :=
  ⟨h.que.ext hb, h.map.ext hb, Ext.then_ h.ext hb⟩
theorem SrI.start (w7 : World) : SrI w7 ⟨[], fun _ => none⟩ 0 (w7.heap.size + 1) 0 0 ((w7.alloc (.map #[] 0)).alloc (.cells #[] 39)) := by
  refine ⟨?_, ?_, Ext.more (Ext.more (Ext.refl _) _) _⟩
  · have := Que.lit (w7.alloc (.map #[] 0)) (w7.heap.size + 1) 39 2 0 #[] (by simp) (by decide) rfl
    simpa [spL] using this
  · exact (MapF.made w7).ext (Ext.more (Ext.refl _) _)
theorem SrI.head {w7 : World} {st : BS (Int × Int)} {i g o cap : Nat} {wr : World} (I : SrI w7 st i g o cap wr) {x y : Int} {r : List (Int × Int)} (h : st.Q.drop i = (x, y) :: r) :
    wr.cell? ⟨g, o, none⟩ = some (.int .i64 x) ∧ wr.cell? ⟨g, o + 1, none⟩ = some (.int .i64 y) := by
  have q := I.que
  rw [h] at q
  exact ⟨by simpa [spL] using q.cell 0 (by simp [spL]), by simpa [spL] using q.cell 1 (by simp [spL])⟩
/-- A place goes into the map, then into the queue. -/
theorem SrI.push {w7 : World} {st : BS (Int × Int)} {i g o cap g' o' cap' d mj : Nat} {u v w' : World} {q : Int × Int} (h : SrI w7 st i g o cap u) (hm : MapF spV spOk v w7.heap.size (putF (bv st.f) q (.bool true))) (hg : u.grownBy v (some w7.heap.size))
    {ob : Obj} (hi : i ≤ st.Q.length) (hmj : st.Q.length - i = mj) (hq : Que w' (w7.heap.size + 1) 39 2 g' o' (mj + 1) cap' (spL (st.Q.drop i) ++ [.int .i64 q.1, .int .i64 q.2])) (hg2 : (v.alloc ob).grownBy w' (some g)) :
    SrI w7 ⟨st.Q ++ [q], fun x => if x = q then some d else st.f x⟩ i g' o' cap' w' := by
  have hB := h.que.2.1
  have hlt := h.map.lt
  have hvz := hg.size
  refine ⟨?_, ?_, ?_⟩
  · have e : (st.Q ++ [q]).length - i = mj + 1 := by simp; omega
    simp only [e]
    rw [List.drop_append_of_le_length hi, spL_append]
    exact hq
  · rw [bv_put]
    have hm2 : MapF spV spOk (v.alloc ob) w7.heap.size (putF (bv st.f) q (.bool true)) := hm.ext (Ext.more (Ext.refl _) _)
    have := hm2.of_block (hg2.block w7.heap.size (by simp; omega) (by simp; omega))
    simpa using this
  · have h1 : Below w7.heap.size w7 v := h.ext.grown hg (by omega) (fun z hz => by cases hz; exact Nat.le_refl _)
    exact (h1.alloc h1.size ob).grown hg2 (by simp; omega) (fun z hz => by cases hz; omega)
/-- What the search asks of neighbours. -/
structure NbT (eight : Bool) (nb : Int × Int → List (Int × Int)) (L : Nat) : Prop where
  len : ∀ p, (nb p).length = L
  near : ∀ p q, q ∈ nb p → (p.1 - 1 ≤ q.1 ∧ q.1 ≤ p.1 + 1) ∧ p.2 - 1 ≤ q.2 ∧ q.2 ≤ p.2 + 1
  call : ∀ (x y : Int) (V : World), (-1000 ≤ x ∧ x ≤ 1000) → (-1000 ≤ y ∧ y ≤ 1000) → Calls Try.prog 74 #[.int .i64 x, .int .i64 y, .bool eight] V fun e w' => ∃ g cap, e = .returned (.slice (some ⟨g, 0, none⟩) L cap) ∧ w'.ownsRow V.heap.size 39 2 (.slice (some ⟨g, 0, none⟩) L cap) L (spL (nb (x, y))) ∧ Below V.heap.size V w'
def nbF (p : Int × Int) : List (Int × Int) := arL p.1 p.2
theorem nbT_four : NbT false nbF 4 where
  len p := rfl
  near p q h := by
    simp only [nbF, arL, List.mem_cons, List.not_mem_nil, or_false] at h
    rcases h with rfl | rfl | rfl | rfl <;> simp only <;> omega
  call x y V hx hy := around_any x y V hx hy

set_option maxRecDepth 100000 in
set_option maxHeartbeats 4000000 in
theorem spread_any {eight : Bool} {nb : Int × Int → List (Int × Int)} {L N : Nat} (NB : NbT eight nb L) (hL : L ≤ 8) {ok : Int × Int → Bool} (OB : OkB ok N) (hN : N ≤ 1000) (ax ay : Int) (ha : ok (ax, ay) = true) (g0 o0 c0 : Nat) (K : FuncId) (caps : Array Value) (w : World)
    (k0 : w.cell? ⟨g0, o0, none⟩ = some (.int .i64 ax)) (k1 : w.cell? ⟨g0, o0 + 1, none⟩ = some (.int .i64 ay)) (hg0 : g0 < w.heap.size) (hK : Enters K)
    (hF : ∀ (x y : Int), (-30 ≤ x ∧ x ≤ 30) → (-30 ≤ y ∧ y ≤ 30) → ∀ wr, Below w.heap.size w wr → Calls Try.prog K (#[.agg #[.int .i64 x, .int .i64 y]] ++ caps) wr fun e w' => e = .returned (.bool (ok (x, y))) ∧ Below wr.heap.size wr w') :
    Calls Try.prog 109 #[.slice (some ⟨g0, o0, none⟩) 1 c0, .bool eight, .func (.func K) #[] caps] w fun e w' => e = .returned (.map (some w.heap.size)) ∧ MapF spV spOk w' w.heap.size (bv (rchF nb ok N (ax, ay))) ∧ Below w.heap.size w w' := by
  have FH := Lib.hid hF
  have AB := OB.bd _ ha
  simp only at AB
  obtain ⟨⟨ab1, ab2⟩, ab3, ab4⟩ := AB
  have AC := Lib.hid (FH.out ax ay (by omega) (by omega))
  rw [ha] at AC
  have OBH := Lib.hid OB
  have HA := Lib.hid ha
  have I0 := SrI.start w
  have hmm := @run_makeMap Try.prog
  have BX := Lib.hid (fun V (hb : Below w.heap.size w V) => And.intro ((hb.cell (p := ⟨g0, o0, none⟩) hg0).trans k0) ((hb.cell (p := ⟨g0, o0 + 1, none⟩) hg0).trans k1))
  have AK : Hid (spOk (ax, ay)) := ⟨by simp only; omega, by simp only; omega⟩
  have RX : Hid (∀ i, RInv nb ok (ax, ay) (rchS nb ok (ax, ay) i) i → i < (rchS nb ok (ax, ay) i).Q.length → RchR nb ok N L (ax, ay) i) := fun i h hi => rchR_of OB NB.len h hi
  have RL : Hid (∀ i, RInv nb ok (ax, ay) (rchS nb ok (ax, ay) i) i → (rchS nb ok (ax, ay) i).Q.length ≤ N ∧ i ≤ (rchS nb ok (ax, ay) i).Q.length) := fun i h => ⟨OB.len h, h.le⟩
  have NBH := Lib.hid NB
  have RE : Hid (∀ i, RInv nb ok (ax, ay) (rchS nb ok (ax, ay) i) i → ¬ i < (rchS nb ok (ax, ay) i).Q.length → (rchS nb ok (ax, ay) i).f = rchF nb ok N (ax, ay)) := fun i h hi => (rchS_end OB h hi).1
  have BF0 : Hid (RInv nb ok (ax, ay) (rchS nb ok (ax, ay) 0) 0) := rchS_zero ha
  have S1 : Hid ((⟨([] : List (Int × Int)) ++ [(ax, ay)], fun x => if x = (ax, ay) then some 0 else (fun _ => none : Int × Int → Option Nat) x⟩ : BS (Int × Int)) = rchS nb ok (ax, ay) 0) := rfl
  clear hF k0 k1 ha OB NB
  unfold Enters at hK
  go_enter Try.func109, Try.ntmps109
  go_wp2_with fail
  generalize (w.alloc (.map #[] 0)).alloc (.cells #[] 39) = wa at *
  clear hmm
  go_loopw [8, 17] (fun v k wr => (k = .int .i64 0 ∧ v = .slice (some ⟨w.heap.size + 1, 0, none⟩) 0 0 ∧ SrI w ⟨[], fun _ => none⟩ 0 (w.heap.size + 1) 0 0 wr) ∨ ∃ g o cap : Nat, k = .int .i64 1 ∧ v = .slice (some ⟨g, o, none⟩) 1 cap ∧ SrI w (rchS nb ok (ax, ay) 0) 0 g o cap wr) (fun _ k _ => (1 - intOf k).toNat)
  case atStart => exact .inl ⟨rfl, rfl, I0⟩
  case round =>
    clear I0
    rcases hrel with ⟨rfl, rfl, I⟩ | ⟨g, o, cap, rfl, rfl, I⟩
    · obtain ⟨x0, x1⟩ := BX.out _ I.ext
      have IZ := I.map.lt
      have EX := Ext.more (Ext.refl wr) (.cells #[.int .i64 ax, .int .i64 ay] 39)
      have IX := Lib.hid (I.step EX)
      have C1 := Lib.hid (AC.out _ IX.out.ext)
      have zA : wr.heap.size < (wr.alloc (.cells #[.int .i64 ax, .int .i64 ay] 39)).heap.size := by simp
      have k13 : (wr.alloc (.cells #[.int .i64 ax, .int .i64 ay] 39)).cell? ⟨wr.heap.size, 0, none⟩ = some (.int .i64 ax) := cell_new wr _ _ 0
      have l13 : (wr.alloc (.cells #[.int .i64 ax, .int .i64 ay] 39)).cell? ⟨wr.heap.size, 1, none⟩ = some (.int .i64 ay) := cell_new wr _ _ 1
      clear I
      go_wp2_with fail
      refine C1.out.mono ?_
      rintro e w12 ⟨rfl, hb12⟩
      replace k13 := (hb12.cell (p := ⟨wr.heap.size, 0, none⟩) zA).trans k13
      replace l13 := (hb12.cell (p := ⟨wr.heap.size, 1, none⟩) zA).trans l13
      have IW := Lib.hid (IX.out.step hb12)
      have zW := IW.out.map.lt
      have zB : wr.heap.size < w12.heap.size := by have := hb12.size; omega
      have hQ0 := IW.out.que
      have hQ1 := Lib.hid (fun V (hV : w12.grownBy V (some w.heap.size)) => hQ0.of_block (w' := V) (hV.block (w.heap.size + 1) hQ0.lt (by simp)))
      have hC1 := Lib.hid (fun V (hV : w12.grownBy V (some w.heap.size)) => hV.cell_far ⟨wr.heap.size, 0, none⟩ (by show wr.heap.size < w12.heap.size; omega) (by simp; omega))
      have hC2 := Lib.hid (fun V (hV : w12.grownBy V (some w.heap.size)) => hV.cell_far ⟨wr.heap.size, 1, none⟩ (by show wr.heap.size < w12.heap.size; omega) (by simp; omega))
      have LK : (Instr.lookup 136 (.map (some w.heap.size)) (.agg #[.int .i64 ax, .int .i64 ay]) false).run Try.prog w12 = .ok (.bool false) w12 := by
        have := IW.out.map.lookup spotK Try.underlying136 (zeroBool' _) (ax, ay) AK.out false
        simpa [bv, spV] using this
      clear hQ0
      go_wp2_with (first
        | (at_mapUpdate; refine wpList_putF spotK _ (by rfl) _ _ _ _ (by rfl) Try.underlying136 (by rfl) IW.out.map (ax, ay) AK.out (by rfl) ?_; intro w14 hm14 hg14 hz14; have k14 := (hC1.out _ hg14).trans k13; have l14 := (hC2.out _ hg14).trans l13; have q14 := hQ1.out _ hg14; have hm14' : MapF spV spOk w14 w.heap.size (putF (bv fun _ => none) (ax, ay) (.bool true)) := hm14; clear hm14 hz14)
        | (at_builtin; go_loud (refine wpList_appQ spotT (by rfl) _ _ (by rfl) (w.heap.size + 1) (w.heap.size + 1) 0 0 0 [] (by rfl) (q14.ext (Ext.more (Ext.refl _) _)) w14.heap.size #[.int .i64 ax, .int .i64 ay] (by rfl) (heap_alloc_new _ _) rfl (by simp [Value.oneCell']) (by omega) ?_; intro g3 o3 cap3 w15 hq15 hg15 hat15)))
      have HP := Lib.hid (IW.out.push (q := (ax, ay)) (d := 0) (mj := 0) hm14' hg14 (by simp) rfl hq15 hg15)
      rw [S1.out] at HP
      clear hq15 hg15 hat15 hm14' hg14 q14 k14 l14
      go_wp2_with fail
      go_roundw
      case rel => exact .inr ⟨g3, o3, cap3, rfl, rfl, HP.out⟩
      case measure => simp [intOf]
    · have BQ := RL.out 0 BF0.out
      obtain ⟨bq, _⟩ := BQ
      have q1 : Hid ((rchS nb ok (ax, ay) 0).Q.length = 1) := rfl
      clear AC S1 BX
      go_wp2_with fail
      go_loopg [8] N (fun n v wr => ∃ i g o cap : Nat, Hid (n + i = N) ∧ Hid (RInv nb ok (ax, ay) (rchS nb ok (ax, ay) i) i) ∧ v = .slice (some ⟨g, o, none⟩) ((rchS nb ok (ax, ay) i).Q.length - i) cap ∧ SrI w (rchS nb ok (ax, ay) i) i g o cap wr)
      case atStart => exact ⟨0, _, _, _, Nat.add_zero _, BF0, by rw [q1.out], I⟩
      case round =>
        obtain ⟨i, g, o, cap, hni, hF, rfl, I⟩ := hrel
        obtain ⟨gn, hgn⟩ : ∃ gn, gn = gk := ⟨_, rfl⟩
        rw [← hgn] at hni
        clear BF0 q1 bq
        obtain ⟨fl1, fl2⟩ := RL.out i hF.out
        by_cases hlt : i < (rchS nb ok (ax, ay) i).Q.length
        · obtain ⟨⟨px, py⟩, d, T, hpo, hp3, hT0, hTj, hTI, hT4, hN⟩ := RX.out i hF.out hlt
          have PB := OBH.out.bd _ hpo
          simp only at PB
          obtain ⟨⟨pb1, pb2⟩, pb3, pb4⟩ := PB
          have hT0' := hT0
          rw [← hT0] at I
          obtain ⟨e1, e2, e3⟩ := hTI 0 (by omega)
          obtain ⟨q0, q1⟩ := I.head e3
          have HI := Lib.hid I
          have lg := I.que.lt
          rw [← hT0] at hlt fl1 fl2
          obtain ⟨m, hm⟩ : ∃ m, (T 0).Q.length - i = m := ⟨_, rfl⟩
          have HM := Lib.hid hm
          have m0 : (0 : Int) < (m : Int) := by omega
          rw [← hT0, hm]
          have HT4 := Lib.hid hT4
          have HN := Lib.hid hN
          have HPO := Lib.hid hpo
          clear hm hT0 I hT4 hN hpo
          have SS := Lib.hid (fun V (hb : Below wr.heap.size wr V) => (show Below wr.heap.size wr V ∧ V.cell? ⟨g, o, none⟩ = some (.int .i64 px) ∧ V.cell? ⟨g, o + 1, none⟩ = some (.int .i64 py) from
            ⟨hb, (hb.cell (p := ⟨g, o, none⟩) lg).trans q0, (hb.cell (p := ⟨g, o + 1, none⟩) lg).trans q1⟩))
          have AR := Lib.hid (fun V => NBH.out.call px py V (by omega) (by omega))
          go_wp2_with fail
          go_region_held3 (fun V => Below wr.heap.size wr V ∧ V.cell? ⟨g, o, none⟩ = some (.int .i64 px) ∧ V.cell? ⟨g, o + 1, none⟩ = some (.int .i64 py))
            (first | exact SS.out _ (Ext.draw (Ext.refl _)) | exact SS.out _ hbv | go_keep)
            (first
              | (go_at_call 74; refine (AR.out _).mono ?_; rintro e wv ⟨ga, ca, rfl, hrow, hb'⟩; have hbv : Below wr.heap.size wr wv := Ext.undraw hb'))
          have hgaw := (hrow.lt ga rfl).1
          have zwr : w.heap.size < wr.heap.size := HI.out.map.lt
          have S0 : SpAt wv ga (nb (px, py)) := own_spots hrow (NBH.out.len _)
          have J0 := HI.out.step hbv
          have hga : wr.heap.size ≤ ga := by simpa using hgaw
          have HLN := Lib.hid (NBH.out.len (px, py))
          clear SS AR hb' hrow hgaw q0 q1
          go_wp2_with fail
          go_loopg [8, 53] L (fun n v jv wr => ∃ j g o cap : Nat, Hid (n + j = L) ∧ jv = .int .i64 j ∧ v = .slice (some ⟨g, o, none⟩) ((T j).Q.length - i) cap ∧ SrI w (T j) i g o cap wr ∧ SpAt wr ga (nb (px, py)) ∧ Hid (g < ga ∨ ga < g))
          case atStart => exact ⟨0, g, o, cap, rfl, rfl, by rw [← HM.out], J0, S0, .inl (by omega)⟩
          case round =>
            obtain ⟨j, g, o, cap, hnj, rfl, rfl, I, hS, hgg⟩ := hrel
            by_cases hjl : j < L
            · have TS := Lib.hid (hTj j hjl)
              obtain ⟨t1, t2, t3⟩ := hTI j (by omega)
              have hjn : j < (nb (px, py)).length := by rw [HLN.out]; exact hjl
              obtain ⟨c1, c2⟩ := hS.2 j hjn
              have lga := hS.1
              have qe : (nb (px, py)).getD j (0, 0) = (nb (px, py))[j]'hjn := by rw [List.getD_eq_getElem?_getD, List.getElem?_eq_getElem hjn]; rfl
              have qb := NBH.out.near (px, py) _ (List.getElem_mem hjn)
              rw [qe] at TS
              clear qe
              generalize (nb (px, py))[j]'hjn = q at *
              obtain ⟨qx, qy⟩ := q
              simp only at c1 c2 qb
              obtain ⟨⟨b1', b2'⟩, b3', b4'⟩ := qb
              have QK : Hid (spOk (qx, qy)) := ⟨by simp only; omega, by simp only; omega⟩
              have i0 : (0 : Int) ≤ (j : Int) := by omega
              have i1 : (j : Int) < (L : Int) := by omega
              have LZ := I.map.lt
              have EX := Ext.more (Ext.refl wr) (.cells #[.int .i64 qx, .int .i64 qy] 39)
              have IX := Lib.hid (I.step EX)
              have SX2 := Lib.hid (hS.ext EX)
              have HI := Lib.hid I
              have k13 : (wr.alloc (.cells #[.int .i64 qx, .int .i64 qy] 39)).cell? ⟨wr.heap.size, 0, none⟩ = some (.int .i64 qx) := cell_new wr _ _ 0
              have l13 : (wr.alloc (.cells #[.int .i64 qx, .int .i64 qy] 39)).cell? ⟨wr.heap.size, 1, none⟩ = some (.int .i64 qy) := cell_new wr _ _ 1
              have C1 := Lib.hid (FH.out qx qy (by omega) (by omega) _ IX.out.ext)
              have zA : wr.heap.size < (wr.alloc (.cells #[.int .i64 qx, .int .i64 qy] 39)).heap.size := by simp
              cases hok : ok (qx, qy)
              · rw [hok] at C1
                have FS : Hid (T (j + 1) = T j) := by rw [Hid, TS.out, BS.see, if_neg]; simp [hok]
                clear hok I hS
                go_wp2_with fail
                refine C1.out.mono ?_
                rintro e w12 ⟨rfl, hb12⟩
                go_wp2_with fail
                go_roundg (gk - 1)
                case measure => have := hnj.out; omega
                case rel => exact ⟨j + 1, g, o, cap, by have := hnj.out; show gk - 1 + (j + 1) = L; omega, by go_num, by rw [FS.out], by rw [FS.out]; exact IX.out.step hb12, SX2.out.ext hb12, hgg⟩
              rw [hok] at C1
              cases hf : (T j).f (qx, qy)
              case some e0 =>
                have FS : Hid (T (j + 1) = T j) := by rw [Hid, TS.out, BS.see, if_neg]; simp [hf]
                have LK : Hid (∀ V, Below (wr.alloc (.cells #[.int .i64 qx, .int .i64 qy] 39)).heap.size (wr.alloc (.cells #[.int .i64 qx, .int .i64 qy] 39)) V → (Instr.lookup 136 (.map (some w.heap.size)) (.agg #[.int .i64 qx, .int .i64 qy]) false).run Try.prog V = .ok (.bool true) V) := by
                  intro V hV
                  have := (IX.out.step hV).map.lookup spotK Try.underlying136 (zeroBool' _) (qx, qy) QK.out false
                  simpa [bv, spV, hf] using this
                clear hf hok I hS
                go_wp2_with fail
                refine C1.out.mono ?_
                rintro e w12 ⟨rfl, hb12⟩
                replace k13 := (hb12.cell (p := ⟨wr.heap.size, 0, none⟩) zA).trans k13
                replace l13 := (hb12.cell (p := ⟨wr.heap.size, 1, none⟩) zA).trans l13
                have LK2 := LK.out _ hb12
                go_wp2_with fail
                go_roundg (gk - 1)
                case measure => have := hnj.out; omega
                case rel => exact ⟨j + 1, g, o, cap, by have := hnj.out; show gk - 1 + (j + 1) = L; omega, by go_num, by rw [FS.out], by rw [FS.out]; exact IX.out.step hb12, SX2.out.ext hb12, hgg⟩
              have FS : Hid (T (j + 1) = ⟨(T j).Q ++ [(qx, qy)], fun x => if x = (qx, qy) then some (d + 1) else (T j).f x⟩) := by
                rw [Hid, TS.out, BS.see, if_pos]; simp [hok, hf]
              have LK : Hid (∀ V, Below (wr.alloc (.cells #[.int .i64 qx, .int .i64 qy] 39)).heap.size (wr.alloc (.cells #[.int .i64 qx, .int .i64 qy] 39)) V → (Instr.lookup 136 (.map (some w.heap.size)) (.agg #[.int .i64 qx, .int .i64 qy]) false).run Try.prog V = .ok (.bool false) V) := by
                intro V hV
                have := (IX.out.step hV).map.lookup spotK Try.underlying136 (zeroBool' _) (qx, qy) QK.out false
                simpa [bv, spV, hf] using this
              obtain ⟨mj, hmj⟩ : ∃ mj, (T j).Q.length - i = mj := ⟨_, rfl⟩
              have HMJ := Lib.hid hmj
              rw [hmj]
              have mj0 : (0 : Int) < (mj : Int) := by omega
              have mj1 : mj ≤ 1000 := by omega
              clear hf hok I hS hmj
              go_wp2_with fail
              refine C1.out.mono ?_
              rintro e w12 ⟨rfl, hb12⟩
              replace k13 := (hb12.cell (p := ⟨wr.heap.size, 0, none⟩) zA).trans k13
              replace l13 := (hb12.cell (p := ⟨wr.heap.size, 1, none⟩) zA).trans l13
              have LK2 := LK.out _ hb12
              have IW := Lib.hid (IX.out.step hb12)
              have SW := Lib.hid (SX2.out.ext hb12)
              have zB : wr.heap.size < w12.heap.size := by have := hb12.size; omega
              have zW := IW.out.map.lt
              have hQ0 := IW.out.que
              rw [HMJ.out] at hQ0
              have hgB := hQ0.2.1
              have hgl := hQ0.lt
              have hQ1 := Lib.hid (fun V (hV : w12.grownBy V (some w.heap.size)) => hQ0.of_block (w' := V) (hV.block g hgl (by simp; omega)))
              have hC1 := Lib.hid (fun V (hV : w12.grownBy V (some w.heap.size)) => hV.cell_far ⟨wr.heap.size, 0, none⟩ (by show wr.heap.size < w12.heap.size; omega) (by simp; omega))
              have hC2 := Lib.hid (fun V (hV : w12.grownBy V (some w.heap.size)) => hV.cell_far ⟨wr.heap.size, 1, none⟩ (by show wr.heap.size < w12.heap.size; omega) (by simp; omega))
              clear hQ0
              go_wp2_with (first
                | (at_mapUpdate; refine wpList_putF spotK _ (by rfl) _ _ _ _ (by rfl) Try.underlying136 (by rfl) IW.out.map (qx, qy) QK.out (by rfl) ?_; intro w14 hm14 hg14 hz14; have k14 := (hC1.out _ hg14).trans k13; have l14 := (hC2.out _ hg14).trans l13; have q14 := hQ1.out _ hg14; have hm14' : MapF spV spOk w14 w.heap.size (putF (bv (T j).f) (qx, qy) (.bool true)) := hm14; clear hm14 hz14)
                | (at_builtin; go_loud (refine wpList_appQ spotT (by rfl) _ _ (by rfl) (w.heap.size + 1) g o mj cap (spL ((T j).Q.drop i)) (by rfl) (q14.ext (Ext.more (Ext.refl _) _)) w14.heap.size #[.int .i64 qx, .int .i64 qy] (by rfl) (heap_alloc_new _ _) rfl (by simp [Value.oneCell']) (by omega) ?_; intro g3 o3 cap3 w15 hq15 hg15 hat15)))
              have zz : w12.heap.size ≤ w14.heap.size := hg14.size
              have HP := Lib.hid (IW.out.push (q := (qx, qy)) (d := d + 1) (mj := mj) hm14' hg14 (by omega) HMJ.out hq15 hg15)
              have e15 : Hid ((T (j + 1)).Q.length - i = mj + 1) := by rw [Hid, FS.out]; have := HMJ.out; simp only [List.length_append, List.length_singleton]; omega
              have SP := SW.out
              have SP2 : SpAt w15 ga (nb (px, py)) := by
                refine SpAt.grown2 (SpAt.ext (SpAt.grown2 SP hg14 (by simp; have := SP.1; omega)) (Ext.more (Ext.refl _) (.cells #[.int .i64 qx, .int .i64 qy] 39))) hg15 (by simp; have := hgg.out; omega)
              have hgg3 : Hid (g3 < ga ∨ ga < g3) := by
                have h1 := hgg.out
                have h2 := SP.1
                simp at hat15
                rcases hat15 with rfl | rfl
                · exact h1
                · right; omega
              clear hq15 hg15 hat15 hm14' hg14 q14 k14 l14 SP
              go_wp2_with fail
              go_roundg (gk - 1)
              case measure => have := hnj.out; omega
              case rel => exact ⟨j + 1, g3, o3, cap3, by have := hnj.out; show gk - 1 + (j + 1) = L; omega, by go_num, by rw [e15.out], by rw [FS.out]; exact HP.out, SP2, hgg3⟩
            · obtain rfl : j = L := by have := hnj.out; omega
              obtain ⟨t1, t2, t3⟩ := hTI j (by omega)
              obtain ⟨mj, hmj⟩ : ∃ mj, (T j).Q.length - i = mj := ⟨_, rfl⟩
              have hQ := I.que.tail (by omega)
              have e3 : (spL ((T j).Q.drop i)).drop 2 = spL ((T j).Q.drop (i + 1)) := by rw [t3]; rfl
              rw [e3] at hQ
              have e4 : (T j).Q.length - i - 1 = (T j).Q.length - (i + 1) := by omega
              rw [e4] at hQ
              have IN : Hid (SrI w (rchS nb ok (ax, ay) (i + 1)) (i + 1) g (if cap = 1 then o else o + 2) (cap - 1) wr) := by rw [← HT4.out]; exact ⟨hQ, I.map, I.ext⟩
              have EN : Hid ((rchS nb ok (ax, ay) (i + 1)).Q.length - (i + 1) = mj - 1) := by rw [Hid, ← HT4.out]; omega
              rw [hmj]
              have mj0 : (1 : Int) ≤ (mj : Int) := by omega
              clear hQ e3 e4 I hS t1 t2 t3 hmj
              by_cases hc1 : cap = 1
              · subst hc1
                simp only [if_true, Nat.sub_self] at IN
                go_wp2_with fail
                go_roundg (gn - 1)
                case measure => have := hni.out; omega
                case rel => exact ⟨i + 1, g, o, 0, by have := hni.out; show gn - 1 + (i + 1) = N; omega, HN.out, by rw [EN.out], IN.out⟩
              · simp only [if_neg hc1] at IN
                go_wp2_with fail
                go_roundg (gn - 1)
                case measure => have := hni.out; omega
                case rel => exact ⟨i + 1, g, o + 2, cap - 1, by have := hni.out; show gn - 1 + (i + 1) = N; omega, HN.out, by rw [EN.out], IN.out⟩
        · have fe := RE.out i hF.out hlt
          have e0 : (rchS nb ok (ax, ay) i).Q.length - i = 0 := by omega
          have hM : MapF spV spOk wr w.heap.size (bv (rchF nb ok N (ax, ay))) := by rw [← fe]; exact I.map
          have hX := I.ext
          rw [e0]
          clear fe I e0 RE RX RL hF
          go_wp2_with fail
          go_ret
          exact ⟨rfl, hM, hX⟩
end Go.Proofs.Ytkamkjbllmgifaa
