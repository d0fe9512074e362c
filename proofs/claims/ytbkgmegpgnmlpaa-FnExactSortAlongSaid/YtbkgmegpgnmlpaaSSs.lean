/- SortAlong, WayAlong, CloseAlong: the reference's. -/
import Derived.Test.YtbkgmegpgnmlpaaSSq
import Derived.Test.YtbkgmegpgnmlpaaHQ
namespace Go.Proofs.Ytbkgmegpgnmlpaa
open Go.RowKit

theorem Calls.lift {f : FuncId} {args : Array Value} {w : World} {v : Value} (h : Calls Try.prog f args w fun e w' => e = .returned v ∧ w = w') : Calls Try.prog f args w fun e w' => e = .returned v ∧ Below w.heap.size w w' :=
  h.mono fun _ _ ⟨he, hw⟩ => ⟨he, hw ▸ Ext.refl _⟩
theorem Calls.same {f : FuncId} {args : Array Value} {w : World} {n : Nat} {v : Value} (h : Calls Try.prog f args (w.drewN n) fun e w' => e = .returned v ∧ w.drewN n = w') : Calls Try.prog f args (w.drewN n) fun e w'' => e = .returned v ∧ ∃ m, w'' = w.drewN m :=
  h.mono fun _ _ ⟨he, hm⟩ => ⟨he, n, hm.symm⟩
set_option maxRecDepth 100000 in
set_option maxHeartbeats 1000000 in
theorem listS8_any (c o : Int) (g cp n : Nat) (L : List (Int × Int)) (w : World) (hA : SpAt w g L) (hl : L.length = n) (hn : n ≤ 1000000000) :
    Calls Try.prog 72 #[.int .i64 c, .int .i64 o, .slice (some ⟨g, 0, none⟩) n cp] w fun e w' => e = .returned (.bool (sokB c o L)) ∧ Below w.heap.size w w' := by
  cases h1 : curveOkB c o
  · have F : Hid (sokB c o L = false) := by simp [Hid, sok_split, h1]
    rw [F.out]
    go_enter Try.func72, Try.ntmps72
    go_wp2_with fail
    refine (ask_any _ _ _).mono ?_
    rintro e w' ⟨rfl, rfl⟩
    go_wp2_with fail
    go_ret
    exact ⟨rfl, Ext.refl _⟩
  obtain ⟨⟨hc0, hc3⟩, h0, h4⟩ := curveOk_iff.1 h1
  by_cases h2 : n ≤ 256
  case neg =>
    have F : Hid (sokB c o L = false) := by simp [Hid, sok_split, hl, h2]
    have t0 : (256 : Int) < (n : Int) := by omega
    rw [F.out]
    clear h2 hl
    go_enter Try.func72, Try.ntmps72
    go_wp2_with fail
    refine (ask_any _ _ _).mono ?_
    rintro e w' ⟨rfl, rfl⟩
    go_wp2_with fail
    go_ret
    exact ⟨rfl, Ext.refl _⟩
  have t0 : ¬ (256 : Int) < (n : Int) := by omega
  have F : Hid (sokB c o L = L.all (onB o)) := by rw [Hid, sok_split, h1, hl]; simp [h2]
  have SD := Lib.hid (fun V => sideO_any o V h0 h4)
  have I := Lib.hid (fun x V => inS_any x 0 (side o - 1) V)
  have s1 := side_pos h0 h4
  have s2 := side_le h0 h4
  have HX := Lib.hid (fun V (hb : Below w.heap.size w V) => hA.ext hb)
  have HL := Lib.hid hl
  rw [F.out]
  clear hA hl h2 F
  go_enter Try.func72, Try.ntmps72
  go_wp2_with fail
  refine (ask_any _ _ _).mono ?_
  rintro e w' ⟨rfl, rfl⟩
  go_wp2_with fail
  clear h1
  go_loopw [7] (fun i wr => ∃ k : Nat, k ≤ n ∧ i = .int .i64 k ∧ Hid (∀ j, j < k → onB o (gp L j) = true) ∧ Below w.heap.size w wr) (fun i _ => n - (intOf i).toNat)
  case atStart => exact ⟨0, Nat.zero_le _, rfl, (fun j h => absurd h (Nat.not_lt_zero _)), Ext.refl _⟩
  case round =>
    obtain ⟨k, hk, rfl, hall, hb⟩ := hrel
    by_cases hlt : k < n
    · have hkl : k < L.length := by rw [HL.out]; exact hlt
      have hS := HX.out _ hb
      obtain ⟨c1, c2⟩ := hS.2 k hkl
      have gl := hS.1
      rw [gp_at hkl] at c1 c2
      have hmem : Hid (gp L k ∈ L) := by rw [Hid, ← gp_at hkl]; exact List.getElem_mem _
      obtain ⟨p, hp⟩ : ∃ p, gp L k = p := ⟨_, rfl⟩
      have HP := Lib.hid hp
      rw [hp] at c1 c2 hmem
      clear hp hS hkl
      obtain ⟨px, py⟩ := p
      simp only at c1 c2
      have I1 := Lib.hid (I.out px)
      have I2 := Lib.hid (I.out py)
      have E : Hid (onB o (px, py) = (inB px 0 (side o - 1) && inB py 0 (side o - 1))) := rfl
      generalize inB px 0 (side o - 1) = b1 at *
      generalize inB py 0 (side o - 1) = b2 at *
      generalize side o = s at *
      have i0 : (0 : Int) ≤ (k : Int) := by omega
      have i1 : (k : Int) < (n : Int) := by omega
      cases b1
      · go_wp2_with fail
        refine wp_region_held_quiet (fun U => Below wr.heap.size wr U) (by kernel_rfl) (by kernel_rfl) (Ext.refl _).drew ?_
        have ne : Nonempty (HeldW (fun U => Below wr.heap.size wr U)) := ⟨⟨wr, Ext.refl _⟩⟩
        have v0 : ∀ i : HeldW (fun U => Below wr.heap.size wr U), i.w.cell? ⟨g, k * 2, none⟩ = _ := fun i => (i.h.cell (p := ⟨g, k * 2, none⟩) gl).trans c1
        have v1 : ∀ i : HeldW (fun U => Below wr.heap.size wr U), i.w.cell? ⟨g, k * 2 + 1, none⟩ = _ := fun i => (i.h.cell (p := ⟨g, k * 2 + 1, none⟩) gl).trans c2
        repeat (go_big_quiet_step ((first | (go_at_call 59; exact Calls.above_of _ (Calls.lift (SD.out _))) | (go_at_call_of 58 (Value.int .i64 px); exact Calls.above_of _ (Calls.lift (I1.out _))) | (go_at_call_of 58 (Value.int .i64 py); exact Calls.above_of _ (Calls.lift (I2.out _))))))
        refine wpQuiet_nil ?_
        intro w4 hw'
        obtain ⟨⟨_, hb4⟩, rfl⟩ := hw'
        clear ne v0 v1
        have HB := Ext.then_ hb hb4
        have R : Hid (L.all (onB o) = false) := by
          rw [Hid, List.all_eq_false]; exact ⟨_, hmem.out, by rw [E.out]; simp⟩
        go_wp2_with fail
        go_ret
        exact ⟨ret_bool R.out.symm, HB⟩
      · cases b2
        · go_wp2_with fail
          refine wp_region_held_quiet (fun U => Below wr.heap.size wr U) (by kernel_rfl) (by kernel_rfl) (Ext.refl _).drew ?_
          have ne : Nonempty (HeldW (fun U => Below wr.heap.size wr U)) := ⟨⟨wr, Ext.refl _⟩⟩
          have v0 : ∀ i : HeldW (fun U => Below wr.heap.size wr U), i.w.cell? ⟨g, k * 2, none⟩ = _ := fun i => (i.h.cell (p := ⟨g, k * 2, none⟩) gl).trans c1
          have v1 : ∀ i : HeldW (fun U => Below wr.heap.size wr U), i.w.cell? ⟨g, k * 2 + 1, none⟩ = _ := fun i => (i.h.cell (p := ⟨g, k * 2 + 1, none⟩) gl).trans c2
          repeat (go_big_quiet_step ((first | (go_at_call 59; exact Calls.above_of _ (Calls.lift (SD.out _))) | (go_at_call_of 58 (Value.int .i64 px); exact Calls.above_of _ (Calls.lift (I1.out _))) | (go_at_call_of 58 (Value.int .i64 py); exact Calls.above_of _ (Calls.lift (I2.out _))))))
          refine wpQuiet_nil ?_
          intro w4 hw'
          obtain ⟨⟨_, hb4⟩, rfl⟩ := hw'
          clear ne v0 v1
          have HB := Ext.then_ hb hb4
          have R : Hid (L.all (onB o) = false) := by
            rw [Hid, List.all_eq_false]; exact ⟨_, hmem.out, by rw [E.out]; simp⟩
          go_wp2_with fail
          go_ret
          exact ⟨ret_bool R.out.symm, HB⟩
        · go_wp2_with fail
          refine wp_region_held_quiet (fun U => Below wr.heap.size wr U) (by kernel_rfl) (by kernel_rfl) (Ext.refl _).drew ?_
          have ne : Nonempty (HeldW (fun U => Below wr.heap.size wr U)) := ⟨⟨wr, Ext.refl _⟩⟩
          have v0 : ∀ i : HeldW (fun U => Below wr.heap.size wr U), i.w.cell? ⟨g, k * 2, none⟩ = _ := fun i => (i.h.cell (p := ⟨g, k * 2, none⟩) gl).trans c1
          have v1 : ∀ i : HeldW (fun U => Below wr.heap.size wr U), i.w.cell? ⟨g, k * 2 + 1, none⟩ = _ := fun i => (i.h.cell (p := ⟨g, k * 2 + 1, none⟩) gl).trans c2
          repeat (go_big_quiet_step ((first | (go_at_call 59; exact Calls.above_of _ (Calls.lift (SD.out _))) | (go_at_call_of 58 (Value.int .i64 px); exact Calls.above_of _ (Calls.lift (I1.out _))) | (go_at_call_of 58 (Value.int .i64 py); exact Calls.above_of _ (Calls.lift (I2.out _))))))
          refine wpQuiet_nil ?_
          intro w4 hw'
          obtain ⟨⟨_, hb4⟩, rfl⟩ := hw'
          clear ne v0 v1
          have HB := Ext.then_ hb hb4
          have R : Hid (∀ j, j < k + 1 → onB o (gp L j) = true) := fun j hj => by
            rcases Nat.lt_succ_iff_lt_or_eq.1 hj with h | h
            · exact hall.out j h
            · rw [h, HP.out, E.out]; rfl
          go_wp2_with fail
          go_roundw
          case rel => exact ⟨k + 1, by omega, by go_num, R, HB⟩
          case measure => simp [intOf]; omega
    · obtain rfl : k = n := by omega
      have R : Hid (L.all (onB o) = true) := by
        rw [Hid, List.all_eq_true]
        intro p hp
        obtain ⟨i, hi, rfl⟩ := List.getElem_of_mem hp
        rw [gp_at hi]
        exact hall.out i (by rw [← HL.out]; exact hi)
      go_wp2_with fail
      go_ret
      exact ⟨ret_bool R.out.symm, hb⟩

/-- How often each of the first numbers is an index of spots. -/
def cntF (c o : Int) (L : List (Int × Int)) (N : Nat) : List Int := (List.range N).map fun j : Nat => (((ixL c o L).count (j : Int) : Nat) : Int)
theorem cntF_len (c o : Int) (L : List (Int × Int)) (N : Nat) : (cntF c o L N).length = N := by simp [cntF]
theorem cntF_at {c o : Int} {L : List (Int × Int)} {N j : Nat} (h : j < N) : (cntF c o L N)[j]'(by rw [cntF_len]; exact h) = (((ixL c o L).count (j : Int) : Nat) : Int) := by simp [cntF]
theorem cntF_zero (c o : Int) (N : Nat) : cntF c o [] N = List.replicate N 0 := by
  apply List.ext_getElem
  · simp [cntF]
  · intro i h1 h2; simp [cntF, ixL]
theorem cntF_step {c o : Int} {L : List (Int × Int)} {N q : Nat} {p : Int × Int} (hp : idxI c o p.1 p.2 = q) : (cntF c o L N).set q ((((ixL c o L).count (q : Int) : Nat) : Int) + 1) = cntF c o (L ++ [p]) N := by
  apply List.ext_getElem
  · simp [cntF]
  · intro i h1 h2
    have hi : i < N := by rw [cntF_len] at h2; exact h2
    rw [cntF_at hi, List.getElem_set, show ixL c o (L ++ [p]) = ixL c o L ++ [(q : Int)] from by simp [ixL, hp], List.count_append]
    by_cases e : q = i
    · subst e; rw [if_pos rfl]; simp
    · rw [if_neg e, cntF_at hi]
      have : [(q : Int)].count (i : Int) = 0 := by rw [List.count_eq_zero]; simp; omega
      rw [this]; rfl
def intK (l : List Int) : Array Value := (ints l).toArray
theorem intK_get (l : List Int) (i : Nat) (h : i < l.length) : (intK l)[i]? = some (.int .i64 l[i]) := by simp [intK, ints, h]
theorem intK_set (l : List Int) (i : Nat) (v : Int) : (intK l).setIfInBounds i (.int .i64 v) = intK (l.set i v) := by
  simp [intK, ints]
theorem intK_made (n : Nat) : madeCells #[Value.int .i64 0] n = intK (List.replicate n 0) := by
  apply Array.ext'
  simp [toList_madeCells_one, intK, ints]
theorem replicate_snoc (x : Int) (m : Nat) : List.replicate (m + 1) x = List.replicate m x ++ [x] := List.replicate_succ'
set_option maxRecDepth 100000 in
set_option maxHeartbeats 2000000 in
theorem sortedS_any (c o : Int) (g cp n : Nat) (L : List (Int × Int)) (w : World) (hA : SpAt w g L) (hl : L.length = n) (hok : sokB c o L = true) :
    Calls Try.prog 73 #[.int .i64 c, .int .i64 o, .slice (some ⟨g, 0, none⟩) n cp] w fun e w' => ∃ g' c', e = .returned (.slice (some ⟨g', 0, none⟩) n c') ∧ w'.ownsRow w.heap.size 2 1 (.slice (some ⟨g', 0, none⟩) n c') n (ints (sIx c o L)) ∧ Below w.heap.size w w' := by
  obtain ⟨⟨hc0, hc3⟩, ⟨h0, h4⟩, hf, hL⟩ := sok_few hok
  rw [hl] at hf
  have s1 := side_pos h0 h4
  have s2 := side_le h0 h4
  obtain ⟨s, hs⟩ := Int.eq_ofNat_of_zero_le (show 0 ≤ side o by omega)
  have SD := Lib.hid (fun V => sideO_any o V h0 h4)
  have IdO := Lib.hid (fun x y V (h : onB o (x, y) = true) => by
    have := onB_iff.1 h
    exact indexS_any c o x y V hc0 hc3 h0 h4 this.1.1 (by omega) this.2.1 (by omega))
  have IB := Lib.hid (fun x y (h : onB o (x, y) = true) => by
    have := onB_iff.1 h
    exact idxI_bd c o x y h0 h4 this.1.1 (by omega) this.2.1 (by omega))
  rw [hs] at s1 s2 SD IB
  obtain ⟨N, hN⟩ : ∃ N, s * s = N := ⟨_, rfl⟩
  have hN2 : N ≤ 256 := by rw [← hN]; exact Nat.le_trans (Nat.mul_le_mul (show s ≤ 16 by omega) (show s ≤ 16 by omega)) (by decide)
  have FS : Hid (sIx c o L = srtTo (ixL c o L) N) := by rw [Hid, sIx, hs, ← hN]; rfl
  have FL : Hid ((srtTo (ixL c o L) N).length = n) := by rw [← FS.out, Hid, sIx_len h0 h4 hL, hl]
  have hNI : (s : Int) * s = N := by rw [← hN]; exact (Int.natCast_mul s s).symm
  have HNI := Lib.hid hNI
  rw [hNI] at IB
  have hmk : ∀ V : World, (Instr.makeSlice 61 (.int .i64 ((s : Int) * s)) (.int .i64 ((s : Int) * s))).run Try.prog V = .ok (.slice (some ⟨V.heap.size, 0, none⟩) N N) (V.alloc (.cells (intK (cntF c o [] N)) 2)) := by
    intro V
    obtain ⟨i0, hi0, hz0, hz1, hz2⟩ := info_parts intT.info
    rw [hNI]
    have h := run_make (P := Try.prog) V 61 2 i0 _ Try.underlying61 hi0 hz0 .i64 .i64 (N : Int) (N : Int) (by omega) (Int.le_refl _) (by rw [hz2]; omega) (by omega)
    rw [h, hz1, Int.toNat_natCast]
    show Result.ok _ (V.alloc (.cells (madeCells #[.int .i64 0] (N * 1)) _)) = _
    rw [Nat.mul_one, intK_made, cntF_zero]
  have HX := Lib.hid (fun V (hb : Below w.heap.size w V) => hA.ext hb)
  have HL := Lib.hid hl
  have hLm := Lib.hid hL
  have hgl := hA.1
  have hbm : (s : Int) * s ≤ 256 := by omega
  have hbm0 : 0 ≤ (s : Int) * s := by omega
  clear hA hl hL hok hs hN hNI
  go_enter Try.func73, Try.ntmps73
  go_wp2_with fail
  refine (SD.out _).mono ?_
  rintro e w' ⟨rfl, rfl⟩
  go_wp2_with fail
  refine (SD.out _).mono ?_
  rintro e w' ⟨rfl, rfl⟩
  go_wp2_with fail
  have hB0 := Blk.made w 2 (intK (cntF c o [] N))
  have hb0 := Ext.more (Ext.refl w) (.cells (intK (cntF c o [] N)) 2)
  clear hmk
  generalize w.alloc (.cells (intK (cntF c o [] N)) 2) = w1 at *
  go_loopw [8] (fun i wr => ∃ k : Nat, k ≤ n ∧ i = .int .i64 k ∧ Blk wr w.heap.size 2 (intK (cntF c o (L.take k) N)) ∧ Below w.heap.size w wr) (fun i _ => n - (intOf i).toNat)
  case atStart => exact ⟨0, Nat.zero_le _, rfl, by rw [List.take_zero]; exact hB0, hb0⟩
  case round =>
    obtain ⟨k, hk, rfl, hB, hb⟩ := hrel
    clear hB0 hb0
    by_cases hlt : k < n
    · have hkl : k < L.length := by rw [HL.out]; exact hlt
      have hS := HX.out _ hb
      obtain ⟨c1, c2⟩ := hS.2 k hkl
      have gl := hS.1
      rw [gp_at hkl] at c1 c2
      have hon := hLm.out _ (List.getElem_mem hkl)
      have htk : L.take (k + 1) = L.take k ++ [gp L k] := by rw [List.take_succ_eq_append_getElem hkl, gp_at hkl]
      rw [gp_at hkl] at hon
      generalize gp L k = p at *
      obtain ⟨px, py⟩ := p
      simp only at c1 c2
      have IC := IdO.out px py
      obtain ⟨ib0, ib1⟩ := IB.out px py hon
      obtain ⟨q, hq⟩ := Int.eq_ofNat_of_zero_le ib0
      have hqN : q < N := by omega
      have ST : Hid (intK (cntF c o (L.take (k + 1)) N) = (intK (cntF c o (L.take k) N)).setIfInBounds q (.int .i64 ((((ixL c o (L.take k)).count (q : Int) : Nat) : Int) + 1))) := by
        rw [Hid, htk, intK_set, cntF_step (p := (px, py)) hq]
      have cq := (hB.cell q).trans (intK_get _ q (by rw [cntF_len]; exact hqN))
      rw [cntF_at hqN] at cq
      have hcnt : (ixL c o (L.take k)).count (q : Int) ≤ 256 := by
        refine Nat.le_trans List.count_le_length ?_
        simp [ixL]; omega
      have IC2 := Lib.hid (fun V => IdO.out px py V hon)
      rw [hq] at IC2
      generalize (ixL c o (L.take k)).count (q : Int) = v at *
      have f0 := hB.free q
      have i0 : (0 : Int) ≤ (k : Int) := by omega
      have i1 : (k : Int) < (n : Int) := by omega
      have i2 : (0 : Int) ≤ (q : Int) := by omega
      have i3 : (q : Int) < (N : Int) := by omega
      have i4 : IntKind.i64.wrap ((v : Int) + 1) = (v : Int) + 1 := IntWalk.i64_in _ (by omega)
      have zl := hb.size
      clear IC ib0 ib1 hq htk hS hkl hon
      go_wp2_with fail
      refine wp_region_quiet_tail 18 (by kernel_rfl) (by kernel_rfl) ?_
      simp only [List.take_succ_cons, List.take_zero, List.drop_succ_cons, List.drop_zero]
      repeat (go_big_quiet_step ((go_at_call 79; exact Calls.same (IC2.out _))))
      refine wpQuiet_nil ?_
      intro _ hw'
      obtain ⟨nq, hw''⟩ := hw'
      subst hw''
      have f3 : (wr.drewN nq).frozen? ⟨w.heap.size, q, none⟩ = false := f0
      have c3 : (wr.drewN nq).cell? ⟨w.heap.size, q, none⟩ = some (.int .i64 v) := cq
      have hB2 : Blk (wr.drewN nq) w.heap.size 2 (intK (cntF c o (L.take k) N)) := hB
      have hb2 := Ext.drawN hb nq
      clear f0 cq c1 c2 hB hb
      generalize wr.drewN nq = w3 at *
      have hB3 := hB2.store q (.int .i64 ((v : Int) + 1))
      rw [← ST.out] at hB3
      have HB := Lib.hid hB3
      have hb3 := hb2.setCell (p := ⟨w.heap.size, q, none⟩) (Nat.le_refl _) (.int .i64 ((v : Int) + 1))
      clear hB3 hB2
      go_wp2_with fail
      go_roundw
      case rel => exact ⟨k + 1, by omega, by go_num, HB.out, hb3⟩
      case measure => simp [intOf]; omega
    · obtain rfl : k = n := by omega
      have e1 : L.take k = L := by rw [← HL.out]; exact List.take_length
      rw [e1] at hB
      have BX := Lib.hid (fun V (h : Below wr.heap.size wr V) => hB.under h hB.lt)
      clear hB e1
      have HB1 := hb
      obtain ⟨wq, hwq⟩ : ∃ wq : World, wr = wq := ⟨_, rfl⟩
      rw [hwq] at BX HB1
      rw [hwq]
      clear hb
      obtain ⟨w4, hw4⟩ : ∃ w4, wq.alloc (.cells #[] 2) = w4 := ⟨_, rfl⟩
      have O4 : w4.ownsRow wq.heap.size 2 1 (.slice (some ⟨wq.heap.size, 0, none⟩) 0 0) 0 (ints (srtTo (ixL c o L) 0)) := by rw [← hw4]; exact World.ownsRow_lit (e := 2) (size := 1) wq #[] 0 (Nat.le_refl _) (by decide) rfl
      have B4 := ext_of_alloc hw4
      have L0 : Hid ((srtTo (ixL c o L) 0).length = 0) := rfl
      have TS := Lib.hid (srtTo_succ (ixL c o L))
      have TL := Lib.hid (srtTo_le (ixL c o L))
      have hcl : Hid ((ixL c o L).length ≤ 256) := by rw [Hid, ixL, List.length_map, HL.out]; exact hf
      have GN := Lib.hid (fun (j : Nat) (h : j < N) => cntF_at (c := c) (o := o) (L := L) h)
      have CL := Lib.hid (cntF_len c o L N)
      have CG := Lib.hid (intK_get (cntF c o L N))
      have z1 := HB1.size
      clear hwq
      go_wp2_with fail
      try simp only [hw4]
      go_loopw [9, 10, 11] (fun v i _ wz => ∃ (j g c1 : Nat), j ≤ N ∧ i = .int .i64 j ∧ v = .slice (some ⟨g, 0, none⟩) (srtTo (ixL c o L) j).length c1 ∧ wz.ownsRow wq.heap.size 2 1 (.slice (some ⟨g, 0, none⟩) (srtTo (ixL c o L) j).length c1) (srtTo (ixL c o L) j).length (ints (srtTo (ixL c o L) j)) ∧ Below wq.heap.size wq wz) (fun _ i _ _ => N - (intOf i).toNat)
      case atStart => exact ⟨0, _, _, Nat.zero_le _, rfl, by rw [L0.out], by rw [L0.out]; exact O4, B4⟩
      case round =>
        obtain ⟨j, gj, cj, hj, rfl, rfl, hown, hbj⟩ := hrel
        clear O4 B4
        by_cases hjl : j < N
        · have hBj := BX.out wr hbj
          have cq := (hBj.cell j).trans (CG.out j (by rw [CL.out]; exact hjl))
          rw [GN.out j hjl] at cq
          have hbl := hBj.lt
          have TSj := Lib.hid (TS.out j)
          have TLj := TL.out (j + 1)
          rw [TSj.out, List.length_append, List.length_replicate] at TLj
          have hcl2 := hcl.out
          generalize srtTo (ixL c o L) j = T at *
          generalize (ixL c o L).count (j : Int) = v at *
          have hTv : T.length + v ≤ 256 := by omega
          have HO := Lib.hid hown
          have i0 : (0 : Int) ≤ (j : Int) := by omega
          have i1 : (j : Int) < (N : Int) := by omega
          clear hown hBj TLj hcl2
          obtain ⟨tn, htn⟩ : ∃ tn, T.length = tn := ⟨_, rfl⟩
          have HT := Lib.hid htn
          rw [htn] at HO hTv ⊢
          clear htn
          obtain ⟨wy, hwy⟩ : ∃ wy : World, wr = wy := ⟨_, rfl⟩
          rw [hwy] at cq hbl HO hbj
          rw [hwy]
          clear hwy
          have O0 : Hid (wy.ownsRow wq.heap.size 2 1 (.slice (some ⟨gj, 0, none⟩) (tn + 0) cj) (tn + 0) (ints (T ++ List.replicate 0 (j : Int)))) := by
            rw [Hid, List.replicate_zero, List.append_nil]; exact HO.out
          go_wp2_with fail
          go_loopw [9, 11] (fun v9 v11 wz => ∃ (m g c1 : Nat), m ≤ v ∧ v11 = .int .i64 ((v : Int) - (m : Int)) ∧ v9 = .slice (some ⟨g, 0, none⟩) (tn + m) c1 ∧ wz.ownsRow wq.heap.size 2 1 (.slice (some ⟨g, 0, none⟩) (tn + m) c1) (tn + m) (ints (T ++ List.replicate m (j : Int))) ∧ Below wq.heap.size wq wz) (fun _ v11 _ => (intOf v11).toNat)
          case atStart => exact ⟨0, gj, cj, Nat.zero_le _, by go_num, rfl, O0.out, hbj⟩
          case round =>
            obtain ⟨m, gm, cm, hm, rfl, rfl, hown, hbm2⟩ := hrel
            by_cases hml : m < v
            · have t0 : (0 : Int) < (v : Int) - (m : Int) := by omega
              have O5 := Lib.hid hown
              have zz := hbm2.size
              clear hown
              go_wp2_with (at_builtin; refine wpList_app intT (by rfl) _ _ (by rfl) wq.heap.size (.slice (some ⟨gm, 0, none⟩) (tn + m) cm) (tn + m) (ints (T ++ List.replicate m (j : Int))) (by rfl) (O5.out.alloc _) wr.heap.size #[.int .i64 (j : Int)] (by rfl) (heap_alloc_new _ _) rfl (by simp [Value.oneCell']) (by omega) (by simp; omega) ?_; intro g6 c6 w6 hown6 hgrow6 hat6 hlt6)
              have O6 : Hid (w6.ownsRow wq.heap.size 2 1 (.slice (some ⟨g6, 0, none⟩) (tn + (m + 1)) c6) (tn + (m + 1)) (ints (T ++ List.replicate (m + 1) (j : Int)))) := by
                rw [Hid, replicate_snoc, ← List.append_assoc, ← Nat.add_assoc]; simpa [ints] using hown6
              have B6 : Below wq.heap.size wq w6 := (Ext.more hbm2 _).grown hgrow6 (by simp; omega) (fun z hz => (O5.out.lt z hz).1)
              clear hown6 hgrow6 hat6
              go_wp2_with fail
              go_roundw
              case rel => exact ⟨m + 1, g6, c6, by omega, by go_num, rfl, O6.out, B6⟩
              case measure => simp [intOf]; omega
            · obtain rfl : m = v := by omega
              have t0 : ¬ (0 : Int) < (m : Int) - (m : Int) := by omega
              have O5 : Hid (wr.ownsRow wq.heap.size 2 1 (.slice (some ⟨gm, 0, none⟩) (srtTo (ixL c o L) (j + 1)).length cm) (srtTo (ixL c o L) (j + 1)).length (ints (srtTo (ixL c o L) (j + 1)))) := by
                rw [Hid, TSj.out, List.length_append, List.length_replicate, HT.out]; exact hown
              have EL : Hid (tn + m = (srtTo (ixL c o L) (j + 1)).length) := by
                rw [Hid, TSj.out, List.length_append, List.length_replicate, HT.out]
              clear hown
              go_wp2_with fail
              go_roundw
              case rel => exact ⟨j + 1, gm, cm, by omega, by go_num, by rw [EL.out], O5.out, hbm2⟩
              case measure => simp [intOf]; omega
        · obtain rfl : j = N := by omega
          rw [FL.out] at hown ⊢
          have O7 : Hid (wr.ownsRow w.heap.size 2 1 (.slice (some ⟨gj, 0, none⟩) k cj) k (ints (sIx c o L))) := by rw [Hid, FS.out]; exact own_base hown z1
          clear hown
          go_wp2_with fail
          go_ret
          exact ⟨gj, cj, rfl, O7.out, Ext.then_ HB1 hbj⟩
set_option maxRecDepth 100000 in
set_option maxHeartbeats 2000000 in
theorem sortAlongS_any (c o : Int) (g cp n : Nat) (L : List (Int × Int)) (w : World) (hA : SpAt w g L) (hl : L.length = n) (hn : n ≤ 1000000000) :
    Calls Try.prog 34 #[.int .i64 c, .int .i64 o, .slice (some ⟨g, 0, none⟩) n cp] w (SpRes w (srtV c o L) (sokB c o L)) := by
  have C := Lib.hid (listS8_any c o g cp n L w hA hl hn)
  cases h : sokB c o L
  · rw [h] at C
    have F := Lib.hid (srtV_no h)
    clear h hl hA
    go_enter Try.func34, Try.ntmps34
    go_wp2_with fail
    refine (C.out).mono ?_
    rintro e w2 ⟨rfl, hb⟩
    go_wp2_with fail
    go_ret2
    exact SpRes.no F.out rfl hb
  obtain ⟨⟨hc0, hc3⟩, ⟨h0, h4⟩, hf, hL⟩ := sok_few h
  rw [hl] at hf
  have hlen := sSp_len h0 h4 hL (c := c)
  rw [hl] at hlen
  have s1 := side_pos h0 h4
  have s2 := side_le h0 h4
  have hs := sideN h0 h4
  have SX := Lib.hid (fun k (hk : k < (sIx c o L).length) => (sSp_ix hc0 hc3 h0 h4 L hk).2.2)
  have SB := Lib.hid (fun k (hk : k < (sIx c o L).length) => srtTo_bd (ixL c o L) ((side o).toNat * (side o).toNat) ((sIx c o L)[k]) (List.getElem_mem hk))
  have hlen2 := sIx_len h0 h4 hL (c := c)
  rw [hl] at hlen2
  obtain ⟨s, hs2⟩ : ∃ s, (side o).toNat = s := ⟨_, rfl⟩
  rw [hs2] at hs SX SB
  have VS := Lib.hid (fun U => spotsS_any c o U hc0 hc3 h0 h4 s hs)
  have SR := Lib.hid (fun U (hU : SpAt U g L) => sortedS_any c o g cp n L U hU hl h)
  have hV := visTo_length c o s s
  have hss : s * s ≤ 256 := Nat.le_trans (Nat.mul_le_mul (show s ≤ 16 by omega) (show s ≤ 16 by omega)) (by decide)
  rw [h] at C
  rw [srtV_yes h]
  generalize sSp c o L = R at *
  generalize sIx c o L = S at *
  generalize visTo c o s s = V at *
  generalize s * s = N at *
  have HR := Lib.hid hlen
  have HS := Lib.hid hlen2
  have HV := Lib.hid hV
  have AX := Lib.hid (fun U (hb : Below w.heap.size w U) => hA.ext hb)
  clear h hl hA hL hlen hlen2 hV hs hs2
  go_enter Try.func34, Try.ntmps34
  go_wp2_with fail
  refine (C.out).mono ?_
  rintro e w2 ⟨rfl, hb⟩
  go_wp2_with fail
  refine (VS.out _).mono ?_
  rintro e w3 ⟨rfl, hB3, hb3⟩
  have VX := Lib.hid (fun U (h : Below w3.heap.size w3 U) => hB3.spots.ext h)
  have B3 := Ext.then_ hb hb3
  clear hB3
  obtain ⟨w4, hw4⟩ : ∃ w4, w3.alloc (.cells #[] 29) = w4 := ⟨_, rfl⟩
  have O4 : Hid (w4.ownsRow w3.heap.size 29 2 (.slice (some ⟨w3.heap.size, 0, none⟩) 0 0) 0 (spL (R.take 0))) := by rw [← hw4]; exact World.ownsRow_lit (e := 29) (size := 2) w3 #[] 0 (Nat.le_refl _) (by decide) rfl
  have B4 := ext_of_alloc hw4
  have C5 := Lib.hid (SR.out w4 (AX.out _ (Ext.then_ B3 B4)))
  go_wp2_with fail
  try simp only [hw4]
  refine (C5.out).mono ?_
  rintro e w5 ⟨g5, c5, rfl, own5, hb5⟩
  have hI := Lib.hid own5
  have O5 := Lib.hid (own_ext hb5 O4.out)
  have B5 := Ext.then_ B4 hb5
  have T0 : Hid ((.slice (some ⟨w3.heap.size, 0, none⟩) 0 0 : Value) = .slice (some ⟨w3.heap.size, 0, none⟩) 0 0) := rfl
  clear own5 O4 C5 hw4
  obtain ⟨gV, hgV⟩ : ∃ gV, w2.heap.size = gV := ⟨_, rfl⟩
  rw [hgV] at VX ⊢
  have z5 := hb5.size
  clear hgV
  go_wp2_with fail
  go_loopw [9, 11] (fun v i wr => ∃ (k gk ck : Nat), k ≤ n ∧ i = .int .i64 k ∧ v = .slice (some ⟨gk, 0, none⟩) k ck ∧ wr.ownsRow w3.heap.size 29 2 (.slice (some ⟨gk, 0, none⟩) k ck) k (spL (R.take k)) ∧ Hid (wr.ownsRow w4.heap.size 2 1 (.slice (some ⟨g5, 0, none⟩) n c5) n (ints S)) ∧ Below w3.heap.size w3 wr) (fun _ i _ => n - (intOf i).toNat)
  case atStart => exact ⟨0, _, _, Nat.zero_le _, rfl, rfl, O5.out, hI, B5⟩
  case round =>
    obtain ⟨k, gk, ck, hk, rfl, rfl, hown, hI2, hbk⟩ := hrel
    clear O5 hI
    by_cases hlt : k < n
    · have hkS : k < S.length := by rw [HS.out]; exact hlt
      have hkR : k < R.length := by rw [HR.out]; exact hlt
      have hIA := own_ints hI2.out HS.out
      have c1 := hIA.2 k hkS
      have gI := hIA.1
      have sx := SX.out k hkS
      obtain ⟨sb0, sb1⟩ := SB.out k hkS
      generalize S[k] = v at *
      obtain ⟨q, rfl⟩ := Int.eq_ofNat_of_zero_le sb0
      have hqN : q < N := by omega
      have hSV := VX.out _ hbk
      obtain ⟨c2, c3⟩ := hSV.2 q (by rw [HV.out]; exact hqN)
      rw [gp_at (by rw [HV.out]; exact hqN)] at c2 c3
      have gV2 := hSV.1
      rw [Int.toNat_natCast] at sx
      rw [← sx] at c2 c3
      have TK : Hid (spL (R.take (k + 1)) = spL (R.take k) ++ [.int .i64 (gp R k).1, .int .i64 (gp R k).2]) := by
        rw [Hid, List.take_succ_eq_append_getElem hkR, spL_append, gp_at hkR]; rfl
      generalize gp R k = p at *
      obtain ⟨px, py⟩ := p
      simp only at c2 c3 TK
      have HO := Lib.hid hown
      have i0 : (0 : Int) ≤ (k : Int) := by omega
      have i1 : (k : Int) < (n : Int) := by omega
      have i2 : (0 : Int) ≤ (q : Int) := by omega
      have i3 : (q : Int) < (N : Int) := by omega
      have zk := hbk.size
      clear hown sx sb0 sb1 hSV hkS hkR hIA
      go_wp2_with (at_builtin; refine wpList_app spotT (by rfl) _ _ (by rfl) w3.heap.size (.slice (some ⟨gk, 0, none⟩) k ck) k (spL (R.take k)) (by rfl) (HO.out.alloc _) wr.heap.size #[.int .i64 px, .int .i64 py] (by rfl) (heap_alloc_new _ _) rfl (by simp [Value.oneCell']) (by omega) (by simp; omega) ?_; intro g6 c6 w6 hown6 hgrow6 hat6 hlt6)
      have O6 : Hid (w6.ownsRow w3.heap.size 29 2 (.slice (some ⟨g6, 0, none⟩) (k + 1) c6) (k + 1) (spL (R.take (k + 1)))) := by rw [Hid, TK.out]; exact hown6
      have B6 : Below w3.heap.size w3 w6 := (Ext.more hbk _).grown hgrow6 (by simp; omega) (fun z hz => (HO.out.lt z hz).1)
      have I6 : Hid (w6.ownsRow w4.heap.size 2 1 (.slice (some ⟨g5, 0, none⟩) n c5) n (ints S)) := (hI2.out.alloc _).kept hgrow6 (.inr (fun e => own_own_ne hI2.out HO.out (by decide) (g := g5) rfl e.symm))
      clear hown6 hgrow6 hat6
      go_wp2_with fail
      go_roundw
      case rel => exact ⟨k + 1, g6, c6, by omega, by go_num, rfl, O6.out, I6, B6⟩
      case measure => simp [intOf]; omega
    · obtain rfl : k = n := by omega
      clear hI2
      have e1 : R.take k = R := by rw [← HR.out]; exact List.take_length
      rw [e1] at hown
      have z3 := B3.size
      have z2 := hb3.size
      have O7 := Lib.hid (own_base hown (show w.heap.size ≤ w3.heap.size by have := hb.size; omega))
      clear hown e1
      go_wp2_with fail
      go_ret2
      exact ⟨some ⟨gk, 0, none⟩, ck, by rw [HR.out]; rfl, by rw [HR.out]; exact O7.out, (fun _ => ⟨gk, rfl⟩), Ext.then_ B3 hbk⟩
set_option maxRecDepth 100000 in
set_option maxHeartbeats 2000000 in
theorem wayAlongS_any (c o : Int) (g cp n : Nat) (L : List (Int × Int)) (w : World) (hA : SpAt w g L) (hl : L.length = n) (hn : n ≤ 1000000000) :
    Calls Try.prog 40 #[.int .i64 c, .int .i64 o, .slice (some ⟨g, 0, none⟩) n cp] w fun e w' => e = .returned (.tuple #[.int .i64 (wayA c o L), .bool (sokB c o L)]) ∧ Below w.heap.size w w' := by
  have C := Lib.hid (sortAlongS_any c o g cp n L w hA hl hn)
  clear hA
  cases h : sokB c o L
  · have F : Hid (wayA c o L = 0) := by rw [Hid, wayA, h]; rfl
    rw [h] at C
    clear h hl
    go_enter Try.func40, Try.ntmps40
    go_wp2_with fail
    refine (C.out).mono ?_
    rintro e w2 ⟨A, c2, rfl, ho, hs, hb⟩
    clear ho hs
    go_wp2_with fail
    go_ret2
    exact ⟨ret_way F.out rfl, hb⟩
  obtain ⟨-, ⟨h0, h4⟩, hf, hL⟩ := sok_few h
  have F : Hid (wayA c o L = waySum (sSp c o L) (n - 1)) := by rw [Hid, wayA, if_pos h, sSp_len h0 h4 hL, hl]
  have hsm := sSp_small h0 h4 L (c := c)
  have hlen := sSp_len h0 h4 hL (c := c)
  rw [h, srtV_yes h] at C
  rw [hl] at hlen hf
  generalize sSp c o L = R at *
  clear h hl hL
  have HL := Lib.hid hlen
  have WB := Lib.hid (fun k => waySum_bd hsm k)
  have WS := Lib.hid (waySum_succ R)
  have JB := Lib.hid (fun k => jmp_bd (gp_small hsm k) (gp_small hsm (k + 1)))
  have JC := Lib.hid (fun k V => jumpS_any (gp R k).1 (gp R k).2 (gp R (k + 1)).1 (gp R (k + 1)).2 V (gp_small hsm k).1 (gp_small hsm k).2 (gp_small hsm (k + 1)).1 (gp_small hsm (k + 1)).2)
  have W0 : Hid (waySum R 0 = 0) := rfl
  clear hlen hsm
  go_enter Try.func40, Try.ntmps40
  go_wp2_with fail
  refine (C.out).mono ?_
  rintro e w2 ⟨A, c2, rfl, ho, hs, hb⟩
  obtain ⟨g2, rfl⟩ := hs rfl
  rw [HL.out] at ho
  have hS := Lib.hid (own_spots ho HL.out)
  clear ho hs
  have hlenR : R.length = n := HL.out
  rw [hlenR]
  clear hlenR
  go_wp2_with fail
  go_loopw [10, 11] (fun v i wr => ∃ k : Nat, (k + 1 ≤ n ∨ k = 0) ∧ i = .int .i64 ((k : Int) + 1) ∧ v = .int .i64 (waySum R k) ∧ Below w2.heap.size w2 wr) (fun _ i _ => n + 1 - (intOf i).toNat)
  case atStart => exact ⟨0, .inr rfl, rfl, by rw [W0.out], Ext.refl _⟩
  case round =>
    obtain ⟨k, hk, rfl, rfl, hb2⟩ := hrel
    by_cases hlt : k + 1 < n
    · have hX := hS.out.ext hb2
      obtain ⟨c1, c2⟩ := hX.2 k (by rw [HL.out]; omega)
      obtain ⟨c3, c4⟩ := hX.2 (k + 1) (by rw [HL.out]; omega)
      have gl := hX.1
      rw [gp_at (by rw [HL.out]; omega)] at c1 c2 c3 c4
      have SS := Lib.hid (WS.out k)
      have b1 := WB.out k
      have b2 := JB.out k
      have J := Lib.hid (JC.out k)
      have EJ : Hid (jmp (gp R k) (gp R (k + 1)) = far0 (gp R k).1 (gp R k).2 (gp R (k + 1)).1 (gp R (k + 1)).2) := rfl
      rw [EJ.out] at SS b2
      generalize gp R k = p at *
      generalize gp R (k + 1) = q at *
      obtain ⟨px, py⟩ := p
      obtain ⟨qx, qy⟩ := q
      simp only at c1 c2 c3 c4 b2 SS J
      generalize far0 px py qx qy = x at *
      generalize waySum R k = v at *
      have i0 : (0 : Int) ≤ (k : Int) := by omega
      have i1 : (k : Int) < (n : Int) := by omega
      have i2 : (k : Int) + 1 < (n : Int) := by omega
      have i3 : (0 : Int) ≤ (k : Int) + 1 := by omega
      have i4 : IntKind.i64.wrap (k : Int) = k := IntWalk.i64_in _ (by omega)
      have i5 : IntKind.i64.wrap (v + x) = v + x := IntWalk.i64_in _ (by omega)
      clear hX EJ hk
      go_wp2_with fail
      refine wp_region_held_quiet (fun U => Below wr.heap.size wr U) (by kernel_rfl) (by kernel_rfl) (Ext.refl _).drew ?_
      have ne : Nonempty (HeldW (fun U => Below wr.heap.size wr U)) := ⟨⟨wr, Ext.refl _⟩⟩
      have v0 : ∀ i : HeldW (fun U => Below wr.heap.size wr U), i.w.cell? ⟨g2, k * 2, none⟩ = _ := fun i => (i.h.cell (p := ⟨g2, k * 2, none⟩) gl).trans c1
      have v1 : ∀ i : HeldW (fun U => Below wr.heap.size wr U), i.w.cell? ⟨g2, k * 2 + 1, none⟩ = _ := fun i => (i.h.cell (p := ⟨g2, k * 2 + 1, none⟩) gl).trans c2
      have v2 : ∀ i : HeldW (fun U => Below wr.heap.size wr U), i.w.cell? ⟨g2, (k + 1) * 2, none⟩ = _ := fun i => (i.h.cell (p := ⟨g2, (k + 1) * 2, none⟩) gl).trans c3
      have v3 : ∀ i : HeldW (fun U => Below wr.heap.size wr U), i.w.cell? ⟨g2, (k + 1) * 2 + 1, none⟩ = _ := fun i => (i.h.cell (p := ⟨g2, (k + 1) * 2 + 1, none⟩) gl).trans c4
      repeat (go_big_quiet_step ((go_at_call 62; exact Calls.above_of _ (J.out _))))
      refine wpQuiet_nil ?_
      intro w4 hw'
      obtain ⟨⟨_, hb4⟩, rfl⟩ := hw'
      clear ne v0 v1 v2 v3
      have HB := Ext.then_ hb2 hb4
      go_wp2_with fail
      go_roundw
      case rel => exact ⟨k + 1, .inl (by omega), by go_num, by rw [SS.out], HB⟩
      case measure => simp [intOf]; omega
    · have ek : k = n - 1 := by omega
      have EW : Hid (waySum R k = waySum R (n - 1)) := by rw [Hid, ek]
      clear ek hk
      go_wp2_with fail
      go_ret2
      exact ⟨ret_way (F.out.trans EW.out.symm) rfl, Ext.then_ hb hb2⟩
end Go.Proofs.Ytbkgmegpgnmlpaa
