/- The reference's SpreadGrey. Under way: behind the first loop. -/
import Derived.Test.YtdbelajgndclfaaSpI
import Derived.Test.YtdbelajgndclfaaWith
import Derived.Test.YtdbelajgndclfaaSRes
import Derived.Deep.RegionLaw
import Derived.Deep.CutRange
import Derived.Deep.DeepCutAuto
import Derived.Test.YtdbelajgndclfaaQTail
namespace Go.Proofs.Ytdbelajgndclfaa
open Go.RowKit

/-- The numbers of a function of places. -/
def vL (O : Nat → Int) (n : Nat) : List Int := (List.range n).map O
theorem vL_length (O : Nat → Int) (n : Nat) : (vL O n).length = n := by simp [vL]
theorem vL_get (O : Nat → Int) (n i : Nat) (h : i < (vL O n).length) : (vL O n)[i] = O i := by simp [vL]
theorem vL_set (O : Nat → Int) (n s : Nat) (v : Int) : (vL O n).set s v = vL (setF O s v) n := by
  apply List.ext_getElem
  · simp [vL]
  · intro i h1 h2
    rw [List.getElem_set, vL_get, vL_get, setF]
    by_cases e : s = i
    · subst e; simp
    · rw [if_neg e, if_neg (fun h => e h.symm)]
theorem flat_len {rows : List (List Int)} {W : Nat} (hr : ∀ y (h : y < rows.length), rows[y].length = W) : ∀ k, k ≤ rows.length → ((rows.take k).flatten).length = k * W := by
  intro k
  induction k with
  | zero => intro _; simp
  | succ k ih =>
    intro h
    rw [List.take_succ_eq_append_getElem (by omega), List.flatten_append, List.length_append, ih (by omega), Nat.succ_mul]
    simp [hr k (by omega)]
theorem flat_succ {rows : List (List Int)} {k : Nat} (h : k < rows.length) : (rows.take (k + 1)).flatten = (rows.take k).flatten ++ rows[k] := by
  rw [List.take_succ_eq_append_getElem h, List.flatten_append]; simp
theorem flat_get {rows : List (List Int)} {W : Nat} (hr : ∀ y (h : y < rows.length), rows[y].length = W) {x y : Nat} (hy : y < rows.length) (hx : x < W) : ∀ k, y < k → k ≤ rows.length → ((rows.take k).flatten).getD (y * W + x) 0 = gF rows W (y * W + x) := by
  intro k
  induction k with
  | zero => intro h; omega
  | succ k ih =>
    intro h1 h2
    have hl := flat_len hr k (by omega)
    rw [flat_succ (by omega), List.getD_eq_getElem?_getD]
    by_cases e : y = k
    · subst e
      rw [List.getElem?_append_right (by omega), hl, Nat.add_sub_cancel_left, gF_at hx hy (by rw [hr y hy]; exact hx), List.getElem?_eq_getElem (by rw [hr y hy]; exact hx)]
      rfl
    · have : y * W + x < k * W := by
        have := Nat.mul_le_mul_right W (show y + 1 ≤ k by omega)
        rw [Nat.succ_mul] at this
        omega
      rw [List.getElem?_append_left (by omega), ← List.getD_eq_getElem?_getD]
      exact ih (by omega) (by omega)

theorem ints_set (L : List Int) (q : Nat) (v : Int) : (ints L).set q (.int .i64 v) = ints (L.set q v) := by simp [ints, List.map_set]
theorem sixteenth_any (n : Int) (w : World) (h : -400000 ≤ n ∧ n ≤ 400000) : Calls Try.prog 92 #[.int .i64 n] w fun e w' => e = .returned (.int .i64 (n / 16)) ∧ w = w' := by
  have j1 : wrap64 n = n := IntWalk.wrap64_in _ ⟨by omega, by omega⟩
  go_enter Try.func92, Try.ntmps92
  go_wp2_with fail
  go_ret
  exact ⟨rfl, rfl⟩
set_option maxRecDepth 100000 in
set_option maxHeartbeats 2000000 in
theorem spreadGreyS_any (A : Option Addr) (c : Nat) (rows : List (List Int)) (w : World) (h : MatRd w A rows) (hn : rows.length ≤ 1000000000) (hr : ∀ i (h : i < rows.length), rows[i].length ≤ 1000000000) :
    Calls Try.prog 39 #[.agg #[.slice A rows.length c]] w (SpRes w (if greyOk rows then rowsTo (spdL rows) (tabW rows) rows.length else []) (if greyOk rows then spdZ rows else 0) (greyOk rows)) := by
  have B1 : Below w.heap.size w ((w.alloc (.cells #[.slice A rows.length c] 39)).alloc (.cells #[.slice none 0 0] 26)) := Ext.more (Ext.more (Ext.refl _) _) _
  have G1 : GreyAt ((w.alloc (.cells #[.slice A rows.length c] 39)).alloc (.cells #[.slice none 0 0] 26)) w.heap.size A c rows := (GreyAt.boxed h _).ext (Ext.more (Ext.refl _) _)
  have T1 : Blk ((w.alloc (.cells #[.slice A rows.length c] 39)).alloc (.cells #[.slice none 0 0] 26)) (w.heap.size + 1) 26 #[.slice none 0 0] := by
    have := Blk.made (w.alloc (.cells #[.slice A rows.length c] 39)) 26 #[.slice none 0 0]
    simpa using this
  have IG := Lib.hid (isGreyS_any w.heap.size A c rows _ G1 hn hr)
  cases hg : greyOk rows
  · rw [hg] at IG
    clear hg G1 h hr
    show Calls _ _ _ _ (SpRes w [] 0 false)
    go_enter Try.func39, Try.ntmps39
    go_wp2_with fail
    refine IG.out.mono ?_
    rintro e w1 ⟨rfl, k, rfl⟩
    have T2 : Blk (World.drewN ((w.alloc (.cells #[.slice A rows.length c] 39)).alloc (.cells #[.slice none 0 0] 26)) k) (w.heap.size + 1) 26 #[.slice none 0 0] := T1
    have cs := (T2.store 0 (.slice none 0 0)).cell 0
    simp at cs
    clear T2
    go_wp2_with fail
    refine bodyPost_ret (v := .tuple #[.agg #[.slice none 0 0], .int .i64 0, .bool false]) (by simp [results, Try.results39, go_sem, cs]) rfl ⟨none, 0, rfl, World.ownsRow_nil _ _ _ _, ?_⟩
    exact (Ext.drawN B1 k).setCell (p := ⟨w.heap.size + 1, 0, none⟩) (by show w.heap.size ≤ w.heap.size + 1; omega) _
  · rw [hg] at IG
    obtain ⟨s1, s2, s3, s4⟩ := tab_sizes hg
    have SZ := Lib.hid (fun k => sizeS_any w.heap.size A c rows _ (G1.drewN k) s1)
    have MH := Lib.hid (fun (A : Option Addr) (c : Nat) V (hV : Rd V A (bools (spdL rows))) => make_any A c (tabW rows) rows.length (spdL rows) V hV s3 (by omega) (by omega) (by simp [spdL]))
    have hrow := tab_row hg
    have GB := Lib.hid (gF_bd hg rfl)
    have FG := Lib.hid (fun x y (hx : x < tabW rows) (hy : y < rows.length) => flat_get hrow hy hx rows.length hy (Nat.le_refl _))
    have FS := Lib.hid (fun k (hk : k < rows.length) => flat_succ hk)
    have FE : Hid ((rows.take rows.length).flatten = rows.flatten) := by rw [Hid, List.take_length]
    have E : Hid (spdL rows = (List.range (tabW rows * rows.length)).map (spdB (tabW rows) rows.length (gF rows (tabW rows)))) := rfl
    have E2 : Hid (spdZ rows = (spdTo (tabW rows) rows.length (gF rows (tabW rows)) (tabW rows * rows.length)).2) := rfl
    have HLN : Hid ((rowsTo (spdL rows) (tabW rows) rows.length).length = rows.length) := rowsTo_length _ _ _
    have YB : Hid (∀ y, y ≤ rows.length → y * tabW rows ≤ 256) := fun y hy => Nat.le_trans (Nat.mul_le_mul (Nat.le_trans hy s2) s4) (by decide)
    have HR := Lib.hid hrow
    have G2 := Lib.hid (fun k k2 => (G1.drewN k).drewN k2)
    have T2 : Hid (∀ k k2, Blk (World.drewN (World.drewN ((w.alloc (.cells #[.slice A rows.length c] 39)).alloc (.cells #[.slice none 0 0] 26)) k) k2) (w.heap.size + 1) 26 #[.slice none 0 0]) := fun _ _ => T1
    have B2 := Lib.hid (fun k k2 => Ext.drawN (Ext.drawN B1 k) k2)
    obtain ⟨i0, hi, hz0, hz1, hz2⟩ := info_parts intT.info
    clear hg h hr hrow G1 T1 B1
    show Calls _ _ _ _ (SpRes w (rowsTo (spdL rows) (tabW rows) rows.length) (spdZ rows) true)
    have hH0 : ∃ H, H = rows.length := ⟨_, rfl⟩
    generalize spdL rows = RL at *
    generalize spdZ rows = RZ at *
    generalize gF rows (tabW rows) = G at *
    generalize tabW rows = W at *
    clear hH0
    go_enter Try.func39, Try.ntmps39
    go_wp2_with fail
    refine IG.out.mono ?_
    rintro e w1 ⟨rfl, k, rfl⟩
    go_wp2_with fail
    refine (SZ.out _).mono ?_
    rintro e w1 ⟨rfl, k2, rfl⟩
    have g2 := G2.out k k2
    have t2 := T2.out k k2
    have b2 := B2.out k k2
    clear G2 T2 B2 IG SZ
    generalize World.drewN (World.drewN ((w.alloc (.cells #[.slice A rows.length c] 39)).alloc (.cells #[.slice none 0 0] 26)) k) k2 = wb at *
    have hrow0 := World.ownsRow_lit (e := 2) (size := 1) wb #[] 0 (Nat.le_refl _) (by decide) rfl
    have B0 : Below wb.heap.size wb (wb.alloc (.cells #[] 2)) := Ext.more (Ext.refl _) _
    go_wp2_with fail
    have RG := Lib.hid (fun V (hb : Below wb.heap.size wb V) => g2.ext hb)
    have s2' : rows.length ≤ 16 := by omega
    have s4' : W ≤ 16 := by omega
    clear g2
    go_loopw [7, 8] (fun v i wr => ∃ y gb cb : Nat, y ≤ rows.length ∧ i = .int .i64 y ∧ v = .slice (some ⟨gb, 0, none⟩) (y * W) cb ∧ wr.ownsRow wb.heap.size 2 1 (.slice (some ⟨gb, 0, none⟩) (y * W) cb) (y * W) (ints (rows.take y).flatten) ∧ Below wb.heap.size wb wr) (fun _ i _ => rows.length - (intOf i).toNat)
    case atStart => exact ⟨0, wb.heap.size, 0, Nat.zero_le _, rfl, by rw [Nat.zero_mul], by rw [Nat.zero_mul]; simpa [ints] using hrow0, B0⟩
    case round =>
      obtain ⟨y, gb, cb, hy, rfl, rfl, hown, hb⟩ := hrel
      clear hrow0 B0
      by_cases hlt : y < rows.length
      · have hyl : y < rows.length := hlt
        have kG := (RG.out wr hb).cell
        obtain ⟨g, rfl, hg, hc⟩ := (RG.out wr hb).rd (by omega)
        obtain ⟨Ay, cy, k1, k2⟩ := hc y hyl
        have hlen := HR.out y hyl
        obtain ⟨gr, rfl, hgr, hcr⟩ := k2 (by simp [ints]; omega)
        have FY := Lib.hid (FS.out y hyl)
        have yb := YB.out (y + 1) (by omega)
        have hsz := hb.size
        have ys : (y + 1) * W = y * W + W := Nat.succ_mul _ _
        clear hc k2
        generalize rows[y] = ry at *
        have i0' : (0 : Int) ≤ (y : Int) := by omega
        have i1 : (y : Int) < (rows.length : Int) := by omega
        rw [hlen] at k1
        have hnews : ∀ j u, (ints ry)[j]? = some u → wr.cell? ((⟨gr, 0, none⟩ : Addr).add j) = some u := by
          intro j u hu
          have hj : j < (ints ry).length := by
            by_cases e : j < (ints ry).length
            · exact e
            · rw [List.getElem?_eq_none (by omega)] at hu; cases hu
          have hadd : (⟨gr, 0, none⟩ : Addr).add j = ⟨gr, j, none⟩ := by unfold Addr.add; split <;> simp_all
          rw [hadd, hcr j hj, ← hu, List.getElem?_eq_getElem hj]
        have hlr : (ints ry).length = W * 1 := by simp [ints, hlen]
        have h1c : ∀ u ∈ ints ry, u.oneCell' = true := by
          intro u hu
          simp only [ints, List.mem_map] at hu
          obtain ⟨a, _, rfl⟩ := hu
          rfl
        rw [ys] at yb
        have HY := Lib.hid ys
        clear ys hcr
        generalize y * W = yW at *
        generalize (rows.take y).flatten = fl at *
        go_wp2_with (at_builtin; refine wpList_append_lies _ (by rfl) _ _ 55 (by rfl) wb.heap.size 2 i0 (.int .i64 0) 1 8 Try.underlying55 hi hz0 hz1 hz2 rfl (by decide) (.slice (some ⟨gb, 0, none⟩) yW cb) yW (ints fl) (by rfl) hown ⟨gr, 0, none⟩ W cy (ints ry) (by rfl) hlr hnews h1c s3 (by unfold maxLen; omega) (by omega) hsz wr.heap.size rfl ?_; intro g3 cap3 w3 hown3 hgrow3 hat3 hlt3)
        have hown4 : w3.ownsRow wb.heap.size 2 1 (.slice (some ⟨g3, 0, none⟩) (yW + W) cap3) (yW + W) (ints (rows.take (y + 1)).flatten) := by
          rw [FY.out]; simpa [ints] using hown3
        have B3 : Below wb.heap.size wb w3 := hb.grown hgrow3 hsz (fun z hz => (hown.lt z hz).1)
        clear hown3 hgrow3 hat3 hnews h1c hlr
        go_wp2_with fail
        go_roundw
        case rel => exact ⟨y + 1, g3, cap3, by omega, by go_num, by rw [HY.out], by rw [HY.out]; exact hown4, B3⟩
        case measure => simp [intOf]; omega
      · have hyE : y = rows.length := by omega
        subst hyE
        obtain ⟨wo, rfl⟩ : ∃ wo : World, wo = wr := ⟨_, rfl⟩
        have hFL : (rows.take rows.length).flatten = vL G (rows.length * W) := by
          have hl := flat_len HR.out rows.length (Nat.le_refl _)
          refine List.ext_getElem (by rw [hl, vL_length]) fun q h1 h2 => ?_
          rw [vL_get]
          have hq : q < W * rows.length := by rw [Nat.mul_comm]; rw [hl] at h1; exact h1
          obtain ⟨hx, hy2, e⟩ := xy_of hq
          have := FG.out (q % W) (q / W) hx hy2
          rw [e, List.getD_eq_getElem?_getD, List.getElem?_eq_getElem h1] at this
          simpa using this
        rw [hFL, Nat.mul_comm rows.length W] at hown
        rw [Nat.mul_comm rows.length W]
        have hsz := hb.size
        have gbl := hown.lt gb rfl
        have hlo : w.heap.size + 1 < wb.heap.size := t2.lt
        clear hFL FG FS FE YB HR RG
        have b3 := b2.trans (hb.mono b2.size)
        have hrow1 := World.ownsRow_lit (e := 4) (size := 1) wo #[] 0 (Nat.le_refl _) (by decide) rfl
        have O0 := hown.alloc (.cells #[] 4)
        have B0 : Below wo.heap.size wo (wo.alloc (.cells #[] 4)) := Ext.more (Ext.refl _) _
        clear hown
        have BF : Below wb.heap.size wb (wo.alloc (.cells #[] 4)) := Ext.more hb _
        clear hb hlt hy
        generalize rows.length = H at *
        have hWH : W * H ≤ 256 := Nat.le_trans (Nat.mul_le_mul s4' s2') (by decide)
        have jn : IntKind.i64.wrap ((W : Int) * H) = ((W * H : Nat) : Int) := by rw [show (W : Int) * H = ((W * H : Nat) : Int) by simp]; exact IntWalk.i64_in _ (by omega)
        go_wp2_with fail
        go_loopw [9, 10, 11, 12, 13, 14, 15, 16] (fun b z i _ _ _ _ _ wl => ∃ (k c2 : Nat) (A2 : Option Addr), k ≤ W * H ∧ i = .int .i64 k ∧ b = .slice A2 k c2 ∧ z = .int .i64 (spdTo W H G k).2 ∧ wl.ownsRow wo.heap.size 4 1 (.slice A2 k c2) k (bools (bTo (spdB W H G) k)) ∧
          wl.ownsRow wb.heap.size 2 1 (.slice (some ⟨gb, 0, none⟩) (W * H) cb) (W * H) (ints (vL (spdTo W H G k).1 (W * H))) ∧ Below wb.heap.size wb wl ∧ wo.heap.size ≤ wl.heap.size) (fun _ _ i _ _ _ _ _ _ => W * H - (intOf i).toNat)
        case atStart => exact ⟨0, 0, _, Nat.zero_le _, rfl, rfl, rfl, by simpa [bTo, bools] using hrow1, O0, BF, by simp⟩
        case round =>
          obtain ⟨k, c2, A2, hk, rfl, rfl, rfl, ob, ov, bf, zo⟩ := hrel
          clear hrow1 O0 BF B0
          by_cases hlt : k < W * H
          · have hv := spd_at s4' s2' GB.out hlt
            have cv : wr.cell? ⟨gb, k, none⟩ = some (.int .i64 ((spdTo W H G k).1 k)) := by
              rw [ov.cellAt k (by omega)]; simp [ints, vL, hlt]
            have i0 : (0 : Int) ≤ (k : Int) := by omega
            have i1 : (k : Int) < ((W * H : Nat) : Int) := by omega
            have SM := Lib.hid (fun m (hm : m ≤ 4) => spd_small s4' s2' GB.out hlt hm)
            have BS := Lib.hid (bTo_succ (spdB W H G) k)
            have SB : Hid (spdB W H G k = decide ((spdTo W H G k).1 k < 50)) := rfl
            have TO : Hid (spdTo W H G (k + 1) = spdM W H (k % W) (k / W) (errE ((spdTo W H G k).1 k)) (spdTo W H G k) 4) := rfl
            have OB := Lib.hid ob
            have OV := Lib.hid ov
            have HGB := Lib.hid ob.lt
            clear ob ov
            obtain ⟨hx, hy, exy⟩ := xy_of hlt
            have hW1 : 0 < W := by omega
            generalize hvv : (spdTo W H G k).1 k = v at *
            clear hvv
            generalize spdTo W H G k = s0 at *
            have SX := Lib.hid (fun n V (h : -400000 ≤ n ∧ n ≤ 400000) => sixteenth_any n V h)
            have bfz := bf.size
            have BFH := Lib.hid bf
            clear bf
            have he := errE_small hv
            have m1 : (k : Int) % (W : Int) = ((k % W : Nat) : Int) := by rw [Int.natCast_emod]
            have m2 : (k : Int) / (W : Int) = ((k / W : Nat) : Int) := by rw [Int.natCast_ediv]
            have m4 : (k : Int).tmod (W : Int) = ((k % W : Nat) : Int) := by rw [Int.tmod_eq_emod_of_nonneg (by omega), m1]
            have m5 : (k : Int).tdiv (W : Int) = ((k / W : Nat) : Int) := by rw [Int.tdiv_eq_ediv_of_nonneg (by omega), m2]
            have EXY : Hid (k / W * W + k % W = k) := exy
            clear m1 m2 exy
            generalize k % W = x at *
            generalize k / W = y at *
            obtain ⟨e, hee⟩ : ∃ e, e = errE v := ⟨_, rfl⟩
            rw [← hee] at TO SM he
            have g0 : IntKind.i64.wrap (7 * e) = 7 * e := IntWalk.i64_in _ (by omega)
            have g1 : IntKind.i64.wrap (3 * e) = 3 * e := IntWalk.i64_in _ (by omega)
            have g2 : IntKind.i64.wrap (5 * e) = 5 * e := IntWalk.i64_in _ (by omega)
            rw [SB.out] at BS
            clear SB
            go_upto_if 55 with (at_builtin; refine wpList_app boolT (by rfl) _ _ (by rfl) wo.heap.size (.slice A2 k c2) k (bools (bTo (spdB W H G) k)) (by rfl) (OB.out.alloc _) wr.heap.size #[.bool (decide (v < 50))] (by rfl) (heap_alloc_new _ _) rfl (by simp [Value.oneCell']) (by omega) (by simp; omega) ?_; intro g3 cap3 w3 hown3 hgrow3 hat3 hlt3)
            have OV4 := Lib.hid ((OV.out.alloc (.cells #[.bool (decide (v < 50))] 4)).kept hgrow3 (Or.inr (fun e => by have := (HGB.out gb e.symm).1; omega)))
            have B4 := Lib.hid ((BFH.out.alloc bfz (.cells #[.bool (decide (v < 50))] 4)).grown hgrow3 (by simp; omega) (fun z hz => by have := (HGB.out z hz).1; omega))
            have OB4 : Hid (w3.ownsRow wo.heap.size 4 1 (.slice (some ⟨g3, 0, none⟩) (k + 1) cap3) (k + 1) (bools (bTo (spdB W H G) (k + 1)))) := by
              rw [Hid, BS.out]; simpa [bools] using hown3
            have z4 : wo.heap.size ≤ w3.heap.size := by have := (hown3.lt g3 rfl).1; omega
            clear hown3 hgrow3 hat3 OB OV HGB BFH BS
            go_cut [12] (fun s12 wx => s12 = .int .i64 e ∧ wx = w3)
            case first =>
              by_cases h50 : v < 50
              · have hE : e = v := by rw [hee]; simp [errE, h50]
                clear hee
                subst hE
                go_wp2_with fail
                go_meet
                exact ⟨rfl, rfl⟩
              · have hE : e = v - 99 := by rw [hee]; simp [errE, h50]
                have j0 : IntKind.i64.wrap (v - 99) = e := by rw [hE]; exact IntWalk.i64_in _ (by omega)
                clear hee hE
                go_wp2_with fail
                go_meet
                exact ⟨rfl, rfl⟩
            case rest =>
              obtain ⟨rfl, rfl⟩ := hcut
              clear hee hv cv
              go_upto_region 19 with (go_at_call 92; refine (SX.out _ _ (by omega)).mono ?_; rintro r w' ⟨rfl, rfl⟩)
              have N0 : Hid (spdN e 0 = 7 * e / 16) := by simp only [Hid, spdN, shR]; omega
              have N1 : Hid (spdN e 1 = 3 * e / 16) := by simp only [Hid, spdN, shL]; omega
              have N2 : Hid (spdN e 2 = 5 * e / 16) := by simp only [Hid, spdN, shU]; omega
              have N3 : Hid (spdN e 3 = e - 7 * e / 16 - 3 * e / 16 - 5 * e / 16) := by simp only [Hid, spdN, shZ, shR, shL, shU]; rw [Int.mul_comm e 7, Int.mul_comm e 3, Int.mul_comm e 5]
              have h0 := spdN_small he 0
              have h1 := spdN_small he 1
              have h2 := spdN_small he 2
              have h3 := spdN_small he 3
              rw [N0.out] at h0
              rw [N1.out] at h1
              rw [N2.out] at h2
              rw [N3.out] at h3
              clear g0 g1 g2 SX
              generalize 7 * e / 16 = n0 at *
              generalize 3 * e / 16 = n1 at *
              generalize 5 * e / 16 = n2 at *
              obtain ⟨n3, hn3⟩ : ∃ n3, n3 = e - n0 - n1 - n2 := ⟨_, rfl⟩
              rw [← hn3] at N3 h3
              have g0 : IntKind.i64.wrap (e - n0) = e - n0 := IntWalk.i64_in _ (by omega)
              have g1 : IntKind.i64.wrap (e - n0 - n1) = e - n0 - n1 := IntWalk.i64_in _ (by omega)
              have g2 : IntKind.i64.wrap (e - n0 - n1 - n2) = n3 := by rw [hn3]; exact IntWalk.i64_in _ (by omega)
              clear hn3
              have OP := World.ownsRow_lit (e := 2) (size := 1) wc #[.int .i64 n0, .int .i64 n1, .int .i64 n2] 3 (Nat.le_refl _) (by decide) rfl
              have OV5 := Lib.hid (OV4.out.alloc (.cells #[.int .i64 n0, .int .i64 n1, .int .i64 n2] 2))
              have OB5 := Lib.hid (OB4.out.alloc (.cells #[.int .i64 n0, .int .i64 n1, .int .i64 n2] 2))
              have B5 := Lib.hid (B4.out.alloc (by omega) (.cells #[.int .i64 n0, .int .i64 n1, .int .i64 n2] 2))
              have z5 : wc.heap.size < (wc.alloc (.cells #[.int .i64 n0, .int .i64 n1, .int .i64 n2] 2)).heap.size := by simp
              have p0 : (wc.alloc (.cells #[.int .i64 n0, .int .i64 n1, .int .i64 n2] 2)).cell? ⟨wc.heap.size, 0, none⟩ = some (.int .i64 n0) := OP.cellAt 0 (by omega)
              have p1 : (wc.alloc (.cells #[.int .i64 n0, .int .i64 n1, .int .i64 n2] 2)).cell? ⟨wc.heap.size, 1, none⟩ = some (.int .i64 n1) := OP.cellAt 1 (by omega)
              have p2 : (wc.alloc (.cells #[.int .i64 n0, .int .i64 n1, .int .i64 n2] 2)).cell? ⟨wc.heap.size, 2, none⟩ = some (.int .i64 n2) := OP.cellAt 2 (by omega)
              generalize wc.alloc (.cells #[.int .i64 n0, .int .i64 n1, .int .i64 n2] 2) = w5 at *
              generalize wc.heap.size = P0 at *
              clear OV4 OB4 B4
              have HP := Lib.hid OP
              clear OP
              go_cut [13] (fun s13 wx => ∃ g6 cap6 : Nat, s13 = .slice (some ⟨g6, 0, none⟩) 4 cap6 ∧ P0 < wx.heap.size ∧ wx.ownsRow P0 2 1 (.slice (some ⟨g6, 0, none⟩) 4 cap6) 4 (ints [n0, n1, n2, n3]) ∧
                wx.ownsRow wb.heap.size 2 1 (.slice (some ⟨gb, 0, none⟩) (W * H) cb) (W * H) (ints (vL s0.1 (W * H))) ∧ wx.ownsRow wo.heap.size 4 1 (.slice (some ⟨g3, 0, none⟩) (k + 1) cap3) (k + 1) (bools (bTo (spdB W H G) (k + 1))) ∧ Below wb.heap.size wb wx)
              case first =>
                go_region_law (first
                  | (refine step_app intT (by rfl) _ _ (by rfl) P0 (.slice (some ⟨P0, 0, none⟩) 3 3) 3 (ints [n0, n1, n2]) (by rfl) (HP.out.drew.alloc _) w5.heap.size #[.int .i64 n3] (by rfl) (heap_alloc_new _ _) rfl (by simp [Value.oneCell']) (by omega) (by simp; omega) ?_; intro g6 cap6 w6 hown6 hgrow6 hat6 hlt6))
                all_goals
                  have OV6 := (OV5.out.alloc (.cells #[.int .i64 n3] 2)).drew.kept hgrow6 (Or.inr (fun e => by have := Option.some.inj (show some gb = some P0 from e); omega))
                  have OB6 := (OB5.out.alloc (.cells #[.int .i64 n3] 2)).drew.kept hgrow6 (Or.inr (fun e => by have := Option.some.inj (show some g3 = some P0 from e); omega))
                  have B6 := (B5.out.alloc (by omega) (.cells #[.int .i64 n3] 2)).drew.grown hgrow6 (by simp; omega) (fun z hz => by have := Option.some.inj (show some P0 = some z from hz); omega)
                  have g6l := (hown6.lt g6 rfl).1
                  have FIN : Hid (P0 < w6.heap.size ∧ w6.ownsRow P0 2 1 (.slice (some ⟨g6, 0, none⟩) 4 cap6) 4 (ints [n0, n1, n2, n3]) ∧
                    w6.ownsRow wb.heap.size 2 1 (.slice (some ⟨gb, 0, none⟩) (W * H) cb) (W * H) (ints (vL s0.1 (W * H))) ∧ w6.ownsRow wo.heap.size 4 1 (.slice (some ⟨g3, 0, none⟩) (k + 1) cap3) (k + 1) (bools (bTo (spdB W H G) (k + 1))) ∧ Below wb.heap.size wb w6) := ⟨by omega, hown6, OV6, OB6, B6⟩
                  clear OV6 OB6 B6 hown6 hgrow6 hat6 OV5 OB5 B5 HP p0 p1 p2 g0 g1 g2
                  go_wp2_with fail
                  go_meet
                  exact ⟨g6, cap6, rfl, FIN.out⟩
              case rest =>
                obtain ⟨g6, cap6, rfl, gx, OP6, OV6, OB6, B6⟩ := hcut
                obtain ⟨w6, rfl⟩ : ∃ w6 : World, w6 = wc := ⟨_, rfl⟩
                have q1 : IntKind.i64.wrap ((x : Int) + 1) = (x : Int) + 1 := IntWalk.i64_in _ (by omega)
                have q2 : IntKind.i64.wrap ((x : Int) - 1) = (x : Int) - 1 := IntWalk.i64_in _ (by omega)
                go_wp2_with fail
                refine wp_region_quiet_tail 15 (by kernel_rfl) (by kernel_rfl) ?_
                simp only [List.take_succ_cons, List.take_zero, List.drop_succ_cons, List.drop_zero]
                repeat (go_big_quiet_step (fail))
                refine wpQuiet_nil ?_
                intro wq hw'
                obtain ⟨nq2, hw''⟩ := hw'
                subst hw''
                have XO : ((w6.drewN nq2).alloc (.cells #[.int .i64 ((x : Int) + 1), .int .i64 ((x : Int) - 1), .int .i64 (x : Int), .int .i64 ((x : Int) + 1)] 2)).ownsRow w6.heap.size 2 1 (.slice (some ⟨w6.heap.size, 0, none⟩) 4 4) 4 (ints [(x : Int) + 1, (x : Int) - 1, (x : Int), (x : Int) + 1]) := World.ownsRow_lit (e := 2) (size := 1) (w6.drewN nq2) #[.int .i64 ((x : Int) + 1), .int .i64 ((x : Int) - 1), .int .i64 (x : Int), .int .i64 ((x : Int) + 1)] 4 (Nat.le_refl _) (by decide) rfl
                have OP6 : (w6.drewN nq2).ownsRow P0 2 1 (.slice (some ⟨g6, 0, none⟩) 4 cap6) 4 (ints [n0, n1, n2, n3]) := OP6
                have OV6 : (w6.drewN nq2).ownsRow wb.heap.size 2 1 (.slice (some ⟨gb, 0, none⟩) (W * H) cb) (W * H) (ints (vL s0.1 (W * H))) := OV6
                have OB6 : (w6.drewN nq2).ownsRow wo.heap.size 4 1 (.slice (some ⟨g3, 0, none⟩) (k + 1) cap3) (k + 1) (bools (bTo (spdB W H G) (k + 1))) := OB6
                have B6 : Below wb.heap.size wb (w6.drewN nq2) := ⟨B6.os, B6.tape, B6.output, B6.size, B6.block⟩
                have gxx : P0 < (w6.drewN nq2).heap.size := gx
                have OP7 := OP6.alloc (.cells #[.int .i64 ((x : Int) + 1), .int .i64 ((x : Int) - 1), .int .i64 (x : Int), .int .i64 ((x : Int) + 1)] 2)
                have OV7 := OV6.alloc (.cells #[.int .i64 ((x : Int) + 1), .int .i64 ((x : Int) - 1), .int .i64 (x : Int), .int .i64 ((x : Int) + 1)] 2)
                have OB7 := OB6.alloc (.cells #[.int .i64 ((x : Int) + 1), .int .i64 ((x : Int) - 1), .int .i64 (x : Int), .int .i64 ((x : Int) + 1)] 2)
                have B7 := B6.alloc (by omega) (.cells #[.int .i64 ((x : Int) + 1), .int .i64 ((x : Int) - 1), .int .i64 (x : Int), .int .i64 ((x : Int) + 1)] 2)
                have PX : Hid (∀ m, m < 4 → (ints [(x : Int) + 1, (x : Int) - 1, (x : Int), (x : Int) + 1])[m]? = some (.int .i64 (spdP x y m).1)) := fun m hm => by
                  match m, hm with
                  | 0, _ => rfl
                  | 1, _ => rfl
                  | 2, _ => rfl
                  | 3, _ => rfl
                have PN : Hid (∀ m, m < 4 → (ints [n0, n1, n2, n3])[m]? = some (.int .i64 (spdN e m))) := fun m hm => by
                  match m, hm with
                  | 0, _ => rw [N0.out]; rfl
                  | 1, _ => rw [N1.out]; rfl
                  | 2, _ => rw [N2.out]; rfl
                  | 3, _ => rw [N3.out]; rfl
                have PY : Hid (∀ m, 0 < m → m < 4 → (spdP x y m).2 = (y : Int) + 1) := fun m h0 hm => by
                  match m, h0, hm with
                  | 1, _, _ => rfl
                  | 2, _, _ => rfl
                  | 3, _, _ => rfl
                have SN := Lib.hid (fun m => spdN_small he m)
                have BH := Lib.hid (fun m (h : inG W H (spdP x y m) = true) => spdP_behind hx hy h)
                have HE : Hid (spdM W H x y e s0 0 = s0) := rfl
                have ME := Lib.hid (fun m => (show spdM W H x y e s0 (m + 1) = giveO W H (spdP x y m) (spdN e m) (spdM W H x y e s0 m) from rfl))
                have q3 : IntKind.i64.wrap ((y : Int) + 1) = (y : Int) + 1 := IntWalk.i64_in _ (by omega)
                have q4 : IntKind.i64.wrap ((y : Int) + 1 - 1) = (y : Int) := by rw [show (y : Int) + 1 - 1 = y by omega]; exact IntWalk.i64_in _ (by omega)
                have q5 : IntKind.i64.wrap ((W : Int) - 1) = (W : Int) - 1 := IntWalk.i64_in _ (by omega)
                clear OP6 OV6 OB6 B6 N0 N1 N2 N3 h0 h1 h2 h3 m4 q1 q2
                go_wp2_with fail
                generalize w6.drewN nq2 = w7 at *
                generalize w6.heap.size = X0 at *
                go_loopw [10, 15, 16] (fun z i _ wl => ∃ m : Nat, m ≤ 4 ∧ i = .int .i64 m ∧ z = .int .i64 (spdM W H x y e s0 m).2 ∧ wl.ownsRow wb.heap.size 2 1 (.slice (some ⟨gb, 0, none⟩) (W * H) cb) (W * H) (ints (vL (spdM W H x y e s0 m).1 (W * H))) ∧
                  wl.ownsRow wo.heap.size 4 1 (.slice (some ⟨g3, 0, none⟩) (k + 1) cap3) (k + 1) (bools (bTo (spdB W H G) (k + 1))) ∧ wl.ownsRow P0 2 1 (.slice (some ⟨g6, 0, none⟩) 4 cap6) 4 (ints [n0, n1, n2, n3]) ∧
                  wl.ownsRow X0 2 1 (.slice (some ⟨X0, 0, none⟩) 4 4) 4 (ints [(x : Int) + 1, (x : Int) - 1, (x : Int), (x : Int) + 1]) ∧ Below wb.heap.size wb wl) (fun _ i _ _ => 4 - (intOf i).toNat)
                case atStart => exact ⟨0, by omega, rfl, by rw [HE.out], by rw [HE.out]; exact OV7, OB7, OP7, XO, B7⟩
                case round =>
                  obtain ⟨m, hm, rfl, rfl, ov, ob, op, xo, b8⟩ := hrel
                  clear OV7 OB7 OP7 XO B7
                  by_cases hlt4 : m < 4
                  · have px : wr.cell? ⟨X0, m, none⟩ = some (.int .i64 (spdP x y m).1) := by rw [xo.cellAt m (by omega)]; exact PX.out m hlt4
                    have pn : wr.cell? ⟨g6, m, none⟩ = some (.int .i64 (spdN e m)) := by rw [op.cellAt m (by omega)]; exact PN.out m hlt4
                    have sn := SN.out m
                    have SM1 := Lib.hid (SM.out m (by omega)).1
                    have sm := (SM.out m (by omega)).2
                    have ME1 := Lib.hid (ME.out m)
                    have BH1 := Lib.hid (BH.out m)
                    have i0 : (0 : Int) ≤ (m : Int) := by omega
                    have i1 : (m : Int) < 4 := by omega
                    have PY0 : Hid (m = 0 → (spdP x y m).2 = (y : Int)) := fun h => by subst h; rfl
                    have PY1 := Lib.hid (fun h => PY.out m h hlt4)
                    have OV := Lib.hid ov
                    have OT := Lib.hid (And.intro ob (And.intro op xo))
                    have BB := Lib.hid b8
                    have IS := Lib.hid (fun n V => inS_any n 0 ((W : Int) - 1) V)
                    clear ov ob op xo b8 PX PN SN SM BH PY HE
                    generalize spdN e m = nv at *
                    generalize hs : spdM W H x y e s0 m = s at *
                    clear hs
                    obtain ⟨xv, yv, hp⟩ : ∃ xv yv, spdP x y m = (xv, yv) := ⟨_, _, rfl⟩
                    rw [hp] at px ME1 BH1 PY0 PY1
                    clear hp
                    go_upto_if 109 with fail
                    go_cut [16] (fun s16 wx => s16 = .int .i64 yv ∧ wx = wr)
                    case first =>
                      by_cases h0 : m = 0
                      · have e0 : yv = y := PY0.out h0
                        subst h0 e0
                        clear px pn
                        go_wp2_with fail
                        go_meet
                        exact ⟨rfl, rfl⟩
                      · have e0 : yv = (y : Int) + 1 := PY1.out (by omega)
                        have h1 : ¬ ((m : Int) = 0) := by omega
                        subst e0
                        clear px pn
                        go_wp2_with fail
                        go_meet
                        exact ⟨rfl, rfl⟩
                    case rest =>
                      obtain ⟨rfl, rfl⟩ := hcut
                      by_cases hin : inG W H (xv, yv) = true
                      · obtain ⟨⟨a1, a2⟩, a3, a4⟩ := inG_iff.1 hin
                        have hb := BH1.out hin
                        simp only at a1 a2 a3 a4
                        obtain ⟨a, rfl⟩ : ∃ a : Nat, xv = a := ⟨xv.toNat, by omega⟩
                        obtain ⟨b, rfl⟩ : ∃ b : Nat, yv = b := ⟨yv.toNat, by omega⟩
                        have epl : plc W ((a : Int), (b : Int)) = b * W + a := by simp [plc]
                        rw [epl] at hb
                        have GI := Lib.hid (giveO_in (n := nv) (s := s) hin)
                        have hi : inB (a : Int) 0 ((W : Int) - 1) = true := inB_true (by omega) (by omega)
                        have su := SM1.out (b * W + a) (by have := EXY.out; omega) hb.2
                        have hq : b * W + a < W * H := hb.2
                        have j1 : IntKind.i64.wrap ((b : Int) * W) = ((b * W : Nat) : Int) := by rw [show (b : Int) * W = ((b * W : Nat) : Int) by simp]; exact IntWalk.i64_in _ (by omega)
                        have j2 : IntKind.i64.wrap (((b * W : Nat) : Int) + a) = ((b * W + a : Nat) : Int) := by rw [← Int.natCast_add]; exact IntWalk.i64_in _ (by omega)
                        clear hb epl BH1 PY0 PY1 SM1 EXY hin
                        generalize b * W + a = q at *
                        generalize b * W = bW at *
                        have cu : wc.cell? ⟨gb, q, none⟩ = some (.int .i64 (s.1 q)) := by rw [OV.out.cellAt q (by omega)]; simp [ints, vL, hq]
                        have fu := OV.out.frozenAt q
                        have j3 : IntKind.i64.wrap (s.1 q + nv) = s.1 q + nv := IntWalk.i64_in _ (by omega)
                        have k0 : (0 : Int) ≤ (q : Int) := by omega
                        have k1 : (q : Int) < ((W * H : Nat) : Int) := by omega
                        have FIN : Hid ((wc.setCell ⟨gb, q, none⟩ (.int .i64 (s.1 q + nv))).ownsRow wb.heap.size 2 1 (.slice (some ⟨gb, 0, none⟩) (W * H) cb) (W * H) (ints (vL (setF s.1 q (s.1 q + nv)) (W * H))) ∧
                            (wc.setCell ⟨gb, q, none⟩ (.int .i64 (s.1 q + nv))).ownsRow wo.heap.size 4 1 (.slice (some ⟨g3, 0, none⟩) (k + 1) cap3) (k + 1) (bools (bTo (spdB W H G) (k + 1))) ∧
                            (wc.setCell ⟨gb, q, none⟩ (.int .i64 (s.1 q + nv))).ownsRow P0 2 1 (.slice (some ⟨g6, 0, none⟩) 4 cap6) 4 (ints [n0, n1, n2, n3]) ∧
                            (wc.setCell ⟨gb, q, none⟩ (.int .i64 (s.1 q + nv))).ownsRow X0 2 1 (.slice (some ⟨X0, 0, none⟩) 4 4) 4 (ints [(x : Int) + 1, (x : Int) - 1, (x : Int), (x : Int) + 1]) ∧
                            Below wb.heap.size wb (wc.setCell ⟨gb, q, none⟩ (.int .i64 (s.1 q + nv))).drew) := by
                          refine ⟨?_, ownsRow_setCell_below OT.out.1 (a := ⟨gb, q, none⟩) gbl.2 _, ownsRow_setCell_below OT.out.2.1 (a := ⟨gb, q, none⟩) (by show gb < P0; omega) _, ownsRow_setCell_below OT.out.2.2 (a := ⟨gb, q, none⟩) (by show gb < X0; omega) _, (BB.out.setCell (p := ⟨gb, q, none⟩) gbl.1 _).drew⟩
                          have h := (OV.out.stored q (.int .i64 (s.1 q + nv))).1
                          rw [ints_set, vL_set] at h
                          exact h
                        clear OV OT BB
                        go_upto_region 28 with (go_at_call 93; refine (IS.out _ _).mono ?_; rintro r w' ⟨rfl, rfl⟩)
                        refine wp_region_quiet_tail 17 (by kernel_rfl) (by kernel_rfl) ?_
                        simp only [List.take_succ_cons, List.take_zero, List.drop_succ_cons, List.drop_zero]
                        repeat (go_big_quiet_step (fail))
                        refine wpQuiet_nil ?_
                        intro w2 hw'
                        obtain ⟨nq, hw''⟩ := hw'
                        subst hw''
                        go_wp2_with fail
                        go_roundw
                        case rel =>
                          refine ⟨m + 1, by omega, by go_num, by rw [ME1.out, GI.out], ?_, ?_⟩
                          · rw [ME1.out, GI.out]; exact FIN.out.1
                          · exact ⟨FIN.out.2.1, FIN.out.2.2.1, FIN.out.2.2.2.1, ⟨FIN.out.2.2.2.2.os, FIN.out.2.2.2.2.tape, FIN.out.2.2.2.2.output, FIN.out.2.2.2.2.size, FIN.out.2.2.2.2.block⟩⟩
                        case measure => simp [intOf]; omega
                      · have hno : inG W H (xv, yv) = false := by simpa using hin
                        have GO := Lib.hid (giveO_out (n := nv) (s := s) hno)
                        have j3 : IntKind.i64.wrap (s.2 + nv) = s.2 + nv := IntWalk.i64_in _ (by omega)
                        have y0 : 0 ≤ yv := by
                          by_cases h0 : m = 0
                          · have h := PY0.out h0
                            simp only at h
                            omega
                          · have h := PY1.out (by omega)
                            simp only at h
                            omega
                        have FIN : Hid (wc.ownsRow wb.heap.size 2 1 (.slice (some ⟨gb, 0, none⟩) (W * H) cb) (W * H) (ints (vL s.1 (W * H))) ∧
                            wc.ownsRow wo.heap.size 4 1 (.slice (some ⟨g3, 0, none⟩) (k + 1) cap3) (k + 1) (bools (bTo (spdB W H G) (k + 1))) ∧
                            wc.ownsRow P0 2 1 (.slice (some ⟨g6, 0, none⟩) 4 cap6) 4 (ints [n0, n1, n2, n3]) ∧
                            wc.ownsRow X0 2 1 (.slice (some ⟨X0, 0, none⟩) 4 4) 4 (ints [(x : Int) + 1, (x : Int) - 1, (x : Int), (x : Int) + 1]) ∧ Below wb.heap.size wb wc) := ⟨OV.out, OT.out.1, OT.out.2.1, OT.out.2.2, BB.out⟩
                        clear OV OT BB BH1 PY0 PY1 SM1 EXY
                        cases hx1 : inB xv 0 ((W : Int) - 1)
                        case' false => skip
                        case' true =>
                          have hyv : ¬ yv < (H : Int) := fun h => by
                            rw [inB_iff] at hx1
                            exact hin (inG_iff.2 ⟨⟨hx1.1, by show xv < W; omega⟩, y0, h⟩)
                        all_goals
                          clear hin hno
                          go_wp2_with (go_at_call 93; refine (IS.out _ _).mono ?_; rintro r w' ⟨rfl, rfl⟩)
                          go_roundw
                          case rel =>
                            refine ⟨m + 1, by omega, by go_num, by rw [ME1.out, GO.out], ?_, ?_⟩
                            · rw [ME1.out, GO.out]; exact FIN.out.1
                            · exact FIN.out.2
                          case measure => simp [intOf]; omega
                  · obtain rfl : m = 4 := by omega
                    have zo2 : wo.heap.size ≤ wr.heap.size := by have := ob.lt g3 rfl; omega
                    have FIN : Hid (wr.ownsRow wo.heap.size 4 1 (.slice (some ⟨g3, 0, none⟩) (k + 1) cap3) (k + 1) (bools (bTo (spdB W H G) (k + 1))) ∧ wr.ownsRow wb.heap.size 2 1 (.slice (some ⟨gb, 0, none⟩) (W * H) cb) (W * H) (ints (vL (spdTo W H G (k + 1)).1 (W * H))) ∧ Below wb.heap.size wb wr ∧ wo.heap.size ≤ wr.heap.size) := ⟨ob, by rw [TO.out]; exact ov, b8, zo2⟩
                    clear ob ov op xo b8
                    go_wp2_with fail
                    go_roundw
                    case rel =>
                      exact ⟨k + 1, cap3, some ⟨g3, 0, none⟩, by omega, by go_num, rfl, by rw [TO.out], FIN.out.1, FIN.out.2.1, FIN.out.2.2.1, FIN.out.2.2.2⟩
                    case measure => simp [intOf]; omega
          · obtain rfl : k = W * H := by omega
            have M1 := Lib.hid (MH.out A2 c2 wr (by rw [E.out]; exact Rd.of_own ob))
            have t3 := t2.under bf t2.lt
            have t3l := t3.lt
            have b4 : Below w.heap.size w wr := b2.trans (bf.mono (by omega))
            clear ob ov
            go_wp2_with fail
            refine M1.out.mono ?_
            rintro e w3 ⟨A3, c3, rfl, hown3, hb3⟩
            have t4 := t3.under hb3 t3.lt
            have c3' := t4.cell 0
            have f3 := t4.free 0
            have cs := (t4.store 0 (.slice A3 H c3)).cell 0
            simp at c3' cs
            have HO := Lib.hid hown3
            clear hown3 M1
            go_wp2_with fail
            refine bodyPost_ret (v := .tuple #[.agg #[.slice A3 H c3], .int .i64 (spdTo W H G (W * H)).2, .bool true]) (by simp [results, Try.results39, go_sem, cs]) rfl ⟨A3, c3, by rw [HLN.out, E2.out], ?_, ?_⟩
            · rw [HLN.out]
              exact own_base (ownsRow_setCell_below HO.out (a := ⟨w.heap.size + 1, 0, none⟩) (by show w.heap.size + 1 < wr.heap.size; omega) _) (by omega)
            · exact (Ext.then_ b4 hb3).setCell (p := ⟨w.heap.size + 1, 0, none⟩) (by show w.heap.size ≤ w.heap.size + 1; omega) _
end Go.Proofs.Ytdbelajgndclfaa
