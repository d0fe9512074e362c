/- FillValleys: the reference's. -/
import Derived.Test.YtkamkjbllmgifaaVlF
import Derived.Test.YtkamkjbllmgifaaVlX
namespace Go.Proofs.Ytkamkjbllmgifaa
open Go.RowKit
open Vl

set_option maxRecDepth 100000 in
set_option maxHeartbeats 1000000 in
theorem ownV_any (ad : Addr) (m c : Nat) (L : List Int) (w : World) (hl : L.length = m) (h0 : 0 < m) (hm : m ≤ 1000) (hlt : ad.block < w.heap.size) (hc : ∀ j u, (ints L)[j]? = some u → w.cell? (ad.add j) = some u) :
    Calls Try.prog 81 #[.slice (some ad) m c] w fun e w' => ∃ g' c', e = .returned (.slice (some ⟨g', 0, none⟩) m c') ∧ w'.ownsRow w.heap.size 2 1 (.slice (some ⟨g', 0, none⟩) m c') m (ints L) ∧ Below w.heap.size w w' := by
  have hrow0 := World.ownsRow_lit (e := 2) (size := 1) w #[] 0 (Nat.le_refl _) (by decide) rfl
  have B0 : Below w.heap.size w (w.alloc (.cells #[] 2)) := Ext.more (Ext.refl _) _
  obtain ⟨i0, hi, hz0, hz1, hz2⟩ := info_parts intT.info
  have hnews : ∀ j u, (ints L)[j]? = some u → (w.alloc (.cells #[] 2)).cell? (ad.add j) = some u := fun j u hu => (B0.cell (by rw [Addr.add_block']; exact hlt)).trans (hc j u hu)
  have hlr : (ints L).length = m * 1 := by simp [ints, hl]
  have h1c : ∀ u ∈ ints L, u.oneCell' = true := by
    intro u hu
    simp only [ints, List.mem_map] at hu
    obtain ⟨a, _, rfl⟩ := hu
    rfl
  have hsz : w.heap.size ≤ (w.alloc (.cells #[] 2)).heap.size := B0.size
  clear hc
  go_enter Try.func81, Try.ntmps81
  go_wp2_with (at_builtin; refine wpList_append_lies _ (by rfl) _ _ 34 (by rfl) w.heap.size 2 i0 (.int .i64 0) 1 8 Try.underlying34 hi hz0 hz1 hz2 rfl (by decide) (.slice (some ⟨w.heap.size, 0, none⟩) 0 0) 0 [] (by rfl) hrow0 ad m c (ints L) (by rfl) hlr hnews h1c h0 (by unfold maxLen; omega) (by omega) hsz _ rfl ?_; intro g3 cap3 w3 hown3 hgrow3 hat3 hlt3)
  have hown4 : w3.ownsRow w.heap.size 2 1 (.slice (some ⟨g3, 0, none⟩) m cap3) m (ints L) := by simpa using hown3
  have B3 : Below w.heap.size w w3 := B0.grown hgrow3 hsz (fun z hz => by simp [Value.ownBlock] at hz; omega)
  clear hown3 hgrow3 hat3 hnews h1c hlr hrow0 B0 hsz
  go_ret
  exact ⟨_, _, rfl, hown4, B3⟩

set_option maxRecDepth 100000 in
set_option maxHeartbeats 2000000 in
theorem rowsV_any (W H n g cp b0 : Nat) (O : Nat → Int) (w : World) (hW1 : 0 < W) (hW : W ≤ 16) (hH : H ≤ 16) (hn : n = W * H) (hB : w.ownsRow b0 2 1 (.slice (some ⟨g, 0, none⟩) n cp) n (ints (fL O n))) :
    Calls Try.prog 48 #[.int .i64 W, .slice (some ⟨g, 0, none⟩) n cp] w fun e w' => ∃ A c vs, e = .returned (.slice A H c) ∧ MatAt w' w.heap.size w'.heap.size A c vs (gO O W H) ∧ Below w.heap.size w w' := by
  have hrow0 := World.ownsRow_lit (e := 34) (size := 1) w #[] 0 (Nat.le_refl _) (by decide) rfl
  have M0 : MatAt (w.alloc (.cells #[] 34)) w.heap.size (w.alloc (.cells #[] 34)).heap.size (some ⟨w.heap.size, 0, none⟩) 0 [] (gridI (fun x y => O (y * W + x)) W 0) := MatAt.nil _ _ _ _ _ hrow0 (fun a ha => by cases ha; simp)
  have B0 : Below w.heap.size w (w.alloc (.cells #[] 34)) := Ext.more (Ext.refl _) _
  have OX := Lib.hid (fun V (hb : Below w.heap.size w V) y (hy : y < H) => ownV_any ⟨g, y * W, none⟩ W (cp - y * W) (rowI (fun x y => O (y * W + x)) y W) V (rowI_length _ _ _) hW1 (by omega) (by have := ((own_ext hb hB).lt g rfl).2; exact this) (fun j u hu => by
    have hj : j < (ints (rowI (fun x y => O (y * W + x)) y W)).length := by
      by_cases e : j < (ints (rowI (fun x y => O (y * W + x)) y W)).length
      · exact e
      · rw [List.getElem?_eq_none (by omega)] at hu; cases hu
    have hj2 : j < W := by simpa [ints, rowI_length] using hj
    have hadd : (⟨g, y * W, none⟩ : Addr).add j = ⟨g, y * W + j, none⟩ := by unfold Addr.add; split <;> simp_all
    have hlt : y * W + j < n := by rw [hn]; exact pl_lt hj2 hy
    rw [hadd, (own_ext hb hB).cellAt _ (by omega), ← hu, List.getElem?_eq_getElem hj, List.getElem?_eq_getElem (by simp [ints, fL_length]; exact hlt)]
    simp [ints, rowI, fL]))
  have YB : Hid (∀ y, y < H → y * W + W ≤ n) := by
    intro y hy
    have := Nat.mul_le_mul_right W (show y + 1 ≤ H by omega)
    rw [Nat.succ_mul, Nat.mul_comm H W, ← hn] at this
    exact this
  have YE : Hid (∀ y, y ≤ H → ¬ y < H → ¬ ((y * W : Nat) : Int) < (n : Int)) := by
    intro y h1 h2
    obtain rfl : y = H := by omega
    rw [hn, Nat.mul_comm]; omega
  have CP : n ≤ cp := by
    rcases hB.2 with ⟨h1, _⟩ | ⟨_, _, _, h1, _, _, h2, _⟩
    · simp at h1
    · simp only [Value.slice.injEq, true_and] at h1; rw [h1.2]; exact h2
  have nb : n ≤ 256 := by rw [hn]; exact Nat.le_trans (Nat.mul_le_mul hW hH) (by decide)
  have E : Hid (gO O W H = gridI (fun x y => O (y * W + x)) W H) := rfl
  rw [E.out]
  generalize (fun x y => O (y * W + x)) = f at *
  clear hB hrow0 hn E
  go_enter Try.func48, Try.ntmps48
  go_wp2_with fail
  generalize w.alloc (.cells #[] 34) = w0 at *
  go_loopw [5, 6] (fun o i wr => ∃ (y c : Nat) (A : Option Addr) (vs : List Value), y ≤ H ∧ i = .int .i64 ((y * W : Nat) : Int) ∧ o = .slice A y c ∧ MatAt wr w.heap.size wr.heap.size A c vs (gridI f W y) ∧ Below w.heap.size w wr) (fun _ i _ => n + 1 - (intOf i).toNat)
  case atStart => exact ⟨0, _, _, _, Nat.zero_le _, by rw [Nat.zero_mul]; rfl, rfl, M0, B0⟩
  case round =>
    obtain ⟨y, c, A, vs, hy, rfl, rfl, hm, hb⟩ := hrel
    clear M0 B0
    by_cases hlt : y < H
    · have yb := YB.out y hlt
      have OK := Lib.hid (OX.out wr hb y hlt)
      have GS := Lib.hid (gridI_succ f W y)
      have RL := Lib.hid (rowI_length f y W)
      have GL := Lib.hid (gridI_length f W y)
      have hwz := hb.size
      have YS : Hid ((y + 1) * W = y * W + W) := Nat.succ_mul _ _
      have hyl : y ≤ 16 := by omega
      have MM := Lib.hid hm
      clear hm
      generalize hyw : y * W = yw at *
      have HYW := Lib.hid hyw
      clear hyw
      have i0 : (0 : Int) ≤ (yw : Int) := by omega
      have i1 : (yw : Int) < (n : Int) := by omega
      have i2 : (yw : Int) + (W : Int) ≤ (cp : Int) := by omega
      have i3 : ((yw : Int) + (W : Int)).toNat = yw + W := by omega
      go_wp2_with fail
      refine OK.out.mono ?_
      rintro e w2 ⟨g2, c2, rfl, hrow, hb2⟩
      have hm2 := MM.out.ext hb2
      have hsz := hb2.size
      have hou := hm2.outer
      rw [GL.out] at hou
      go_wp2_with (at_builtin; refine wpList_app rowT (by rfl) _ _ (by rfl) w.heap.size (.slice A y c) y vs (by rfl) (hou.alloc _) w2.heap.size #[.slice (some ⟨g2, 0, none⟩) W c2] (by rfl) (heap_alloc_new _ _) rfl (by simp [Value.oneCell']) (by omega) (by simp; omega) ?_; intro g3 cap3 w3 hown3 hgrow3 hat3 hlt3)
      have PU : MatAt w3 w.heap.size w3.heap.size (some ⟨g3, 0, none⟩) cap3 (vs ++ [.slice (some ⟨g2, 0, none⟩) (rowI f y W).length c2]) (gridI f W y ++ [rowI f y W]) :=
        MatAt.push MM.out hb2 (by rw [RL.out]; exact hrow) hwz (Nat.le_refl _) (by rw [GL.out]; exact hgrow3) (by rw [GL.out, RL.out]; simpa using hown3)
      have B3 : Below w.heap.size w w3 := ((hb.trans (hb2.mono hwz)).alloc (by omega) _).grown hgrow3 (by simp; omega) (fun z hz => (hou.lt z hz).1)
      clear hown3 hgrow3 hat3 hou hm2 hrow
      go_wp2_with fail
      go_roundw
      case rel => exact ⟨y + 1, cap3, some ⟨g3, 0, none⟩, _, by omega, by rw [YS.out]; simp, rfl, by rw [GS.out]; exact PU, B3⟩
      case measure => simp [intOf]; omega
    · have t0 := YE.out y hy hlt
      obtain rfl : H = y := by omega
      go_wp2_with fail
      go_ret
      exact ⟨A, c, vs, rfl, hm, hb⟩

theorem flat_fL {rows : List (List Int)} {W H n : Nat} (g : GreyN rows W H n) : rows.flatten = fL (gF rows W) n := by
  apply List.ext_getElem
  · rw [fL_length, g.len]
  · intro i h1 h2
    rw [fL_get, ← g.get i (by rw [fL_length] at h2; exact h2)]
    rw [List.getD_eq_getElem?_getD, List.getElem?_eq_getElem h1]
    rfl
theorem ints_setV (L : List Int) (q : Nat) (v : Int) : (ints L).set q (.int .i64 v) = ints (L.set q v) := by simp [ints, List.map_set]
set_option maxRecDepth 100000 in
set_option maxHeartbeats 4000000 in
theorem fillValS_any (A : Option Addr) (c : Nat) (rows : List (List Int)) (dp : Int) (w : World) (h : MatRd w A rows) (hn : rows.length ≤ 1000000000) (hr : ∀ i (h : i < rows.length), rows[i].length ≤ 1000000000) :
    Calls Try.prog 33 #[.agg #[.slice A rows.length c], .int .i64 dp] w (FilRes w (fillV rows dp) (fillOk rows dp)) := by
  obtain ⟨wB, hwB⟩ : ∃ wB, (w.alloc (.cells #[.slice A rows.length c] 26)).alloc (.cells #[.slice none 0 0] 26) = wB := ⟨_, rfl⟩
  have B1 : Below w.heap.size w wB := by rw [← hwB]; exact Ext.more (Ext.more (Ext.refl _) _) _
  have G1 : GreyAt wB w.heap.size A c rows := by rw [← hwB]; exact (GreyAt.boxed h _).ext (Ext.more (Ext.refl _) _)
  have T2 : Blk wB (w.heap.size + 1) 26 #[.slice none 0 0] := by
    have := Blk.made (w.alloc (.cells #[.slice A rows.length c] 26)) 26 #[.slice none 0 0]
    rw [hwB] at this; simpa using this
  have VG := Lib.hid (isGreyS_any w.heap.size A c rows wB G1 hn hr)
  have GX := Lib.hid (fun V (hb : Below wB.heap.size wB V) => G1.ext hb)
  have BAD : Hid (∀ V, Below wB.heap.size wB V → (V.setCell ⟨w.heap.size + 1, 0, none⟩ (.slice none 0 0)).cell? ⟨w.heap.size + 1, 0, none⟩ = some (.slice none 0 0) ∧ V.cell? ⟨w.heap.size + 1, 0, none⟩ = some (.slice none 0 0) ∧ V.frozen? ⟨w.heap.size + 1, 0, none⟩ = false ∧ MatAt (V.setCell ⟨w.heap.size + 1, 0, none⟩ (.slice none 0 0)) w.heap.size (V.setCell ⟨w.heap.size + 1, 0, none⟩ (.slice none 0 0)).heap.size none 0 [] [] ∧ Below w.heap.size w (V.setCell ⟨w.heap.size + 1, 0, none⟩ (.slice none 0 0))) := by
    intro V hb
    have T3 := T2.under hb T2.lt
    have c2 := T3.cell 0
    have cs := (T3.store 0 (.slice none 0 0)).cell 0
    simp at c2 cs
    exact ⟨cs, c2, T3.free 0, MatAt.nil _ _ _ _ _ (World.ownsRow_nil _ _ _ _) (fun a ha => by cases ha), (Ext.then_ B1 hb).setCell (p := ⟨w.heap.size + 1, 0, none⟩) (by show w.heap.size ≤ w.heap.size + 1; omega) _⟩
  cases hg : greyOk rows
  · have F1 : Hid (fillOk rows dp = false) := by rw [Hid, fillOk, hg]; rfl
    have F2 : Hid (fillV rows dp = []) := by rw [Hid, fillV, F1.out]; rfl
    rw [hg] at VG
    rw [F2.out, F1.out]
    clear hg hn hr h G1 F1 F2
    generalize rows.length = H at *
    go_enter Try.func33, Try.ntmps33
    go_wp2_with fail
    try simp only [hwB]
    refine VG.out.mono ?_
    rintro e w2 ⟨rfl, k, rfl⟩
    obtain ⟨cs, c2, f2, MN, BN⟩ := BAD.out _ (Ext.drawN (Ext.refl wB) k)
    have MN := Lib.hid (And.intro MN BN)
    go_wp2_with fail
    exact bodyPost_ret (v := .tuple #[.agg #[.slice none 0 0], .bool false]) (by simp [results, Try.results33, go_sem, cs]) rfl ⟨none, 0, [], rfl, MN.out.1, MN.out.2⟩
  rw [hg] at VG
  cases hd : inB dp 0 100
  · have F1 : Hid (fillOk rows dp = false) := by rw [Hid, fillOk, hg, hd]; rfl
    have F2 : Hid (fillV rows dp = []) := by rw [Hid, fillV, F1.out]; rfl
    have IN := Lib.hid (fun V => inS_any dp 0 100 V)
    rw [hd] at IN
    rw [F2.out, F1.out]
    clear hg hn hr h G1 F1 F2 hd
    generalize rows.length = H at *
    go_enter Try.func33, Try.ntmps33
    go_wp2_with fail
    try simp only [hwB]
    refine VG.out.mono ?_
    rintro e w2 ⟨rfl, k, rfl⟩
    obtain ⟨cs, c2, f2, MN, BN⟩ := BAD.out _ (Ext.drawN (Ext.refl wB) k)
    have MN := Lib.hid (And.intro MN BN)
    go_wp2_with fail
    refine (IN.out _).mono ?_
    rintro e w3 ⟨rfl, rfl⟩
    go_wp2_with fail
    exact bodyPost_ret (v := .tuple #[.agg #[.slice none 0 0], .bool false]) (by simp [results, Try.results33, go_sem, cs]) rfl ⟨none, 0, [], rfl, MN.out.1, MN.out.2⟩
  have F1 : Hid (fillOk rows dp = true) := by rw [Hid, fillOk, hg, hd]; rfl
  obtain ⟨W, hW⟩ : ∃ W, tabW rows = W := ⟨_, rfl⟩
  obtain ⟨H, hH⟩ : ∃ H, rows.length = H := ⟨_, rfl⟩
  have GN : GreyN rows W H (W * H) := ⟨hg, hW, hH, rfl⟩
  obtain ⟨x1, x2, x3, x4⟩ := GN.w1
  have F2 : Hid (fillV rows dp = gO (fillTo (vSt rows) dp (gF rows W) (vSt rows).n) W H) := by rw [Hid, fillV, F1.out, fillR, hW, hH]; rfl
  have IN := Lib.hid (fun V => inS_any dp 0 100 V)
  rw [hd] at IN
  rw [F2.out, F1.out]
  have WG := Lib.hid (fun V (hV : GreyAt V w.heap.size A c rows) => widthG_any w.heap.size A c rows V hV (by rw [hH]; exact x3))
  rw [hW] at WG
  have LG := Lib.hid (fun V (hV : GreyAt V w.heap.size A c rows) => list_any A c rows W H (W * H) V hV.rd hH GN.row x1 x2 x4 (by rw [Nat.mul_comm]))
  have PG := Lib.hid (fun V A1 c1 (r1 : Rd V A1 (ints rows.flatten)) => valleysS_any W H (W * H) A1 c1 rows.flatten V x1 x2 x4 rfl GN.len GN.bd r1 (gF rows W) GN.get)
  have ES : Hid (fold (nbN W H) (gF rows W) (ordS (gF rows W) (W * H) 100) = vSt rows) := by rw [Hid, ← hW, ← hH]; rfl
  rw [ES.out] at PG
  have EF := Lib.hid (flat_fL GN)
  rw [EF.out] at LG PG
  have OKV := Lib.hid (vSt_ok (rows := rows))
  rw [hW, hH] at OKV
  have BD := Lib.hid (vSt_bd hg)
  have TOP := Lib.hid (vSt_top rows)
  have NB := vSt_n hg
  have RW := Lib.hid (fun V g cp b0 O (hB : V.ownsRow b0 2 1 (.slice (some ⟨g, 0, none⟩) (W * H) cp) (W * H) (ints (fL O (W * H)))) => rowsV_any W H (W * H) g cp b0 O V x1 x2 x4 rfl hB)
  have MX : Hid (∀ a b V, Calls Try.prog 64 #[.int .i64 a, .int .i64 b] V fun e w' => e = .returned (.int .i64 (max a b)) ∧ Below V.heap.size V w') := fun a b V => (maxS_any' a b V).mono fun e w' q => ⟨q.1, q.2 ▸ Ext.refl V⟩
  have dB : 0 ≤ dp ∧ dp ≤ 100 := by
    simp only [inB, Bool.and_eq_true, decide_eq_true_eq] at hd
    exact hd
  have GLn := Lib.hid (fun O => gO_length O W H)
  have hnl : W * H ≤ 256 := Nat.le_trans (Nat.mul_le_mul x2 x4) (by decide)
  have hn0 : 0 < W * H := Nat.mul_pos x1 x3
  clear hg hd hn hr h F1 F2 hW ES EF GN x1 x2 x3 x4
  rw [hH] at hwB
  have cH := G1.cell
  rw [hH] at cH
  have KH : Hid (∀ V, GreyAt V w.heap.size A c rows → V.cell? ⟨w.heap.size, 0, none⟩ = some (.slice A H c)) := fun V hV => by have := hV.cell; rwa [hH] at this
  generalize vSt rows = st at *
  generalize gF rows W = G at *
  generalize W * H = N at *
  rw [hH]
  clear hH G1
  go_enter Try.func33, Try.ntmps33
  go_wp2_with fail
  try simp only [hwB]
  refine VG.out.mono ?_
  rintro e w2 ⟨rfl, kk, rfl⟩
  have hb2 : Below wB.heap.size wB (wB.drewN kk) := Ext.drawN (Ext.refl wB) kk
  have hz2 : wB.heap.size ≤ (wB.drewN kk).heap.size := hb2.size
  have lB := T2.lt
  go_wp2_with fail
  refine (IN.out _).mono ?_
  rintro e w2' ⟨rfl, rfl⟩
  generalize wB.drewN kk = w2 at *
  have cH := KH.out _ (GX.out _ hb2)
  go_wp2_with fail
  refine (LG.out _ (GX.out _ hb2)).mono ?_
  rintro e w3 ⟨A3, c3, rfl, own3, hb3⟩
  have hb23 := Ext.then_ hb2 hb3
  go_wp2_with fail
  refine (WG.out _ (GX.out _ hb23)).mono ?_
  rintro e w3' ⟨rfl, rfl⟩
  go_wp2_with fail
  refine (PG.out _ _ _ (Rd.of_own own3)).mono ?_
  rintro e w4 ⟨gb, og, oc, P, Ls, rfl, hSV, hb4⟩
  obtain ⟨gN, rfl⟩ : ∃ g, A3 = some ⟨g, 0, none⟩ := by
    obtain ⟨_, _, e, hA⟩ := own_form own3
    simp only [Value.slice.injEq, true_and] at e
    rw [e.1]
    exact hA hn0
  have own4 := own_ext hb4 own3
  have gN0 := (own3.lt gN rfl).1
  have gN1 := (own3.lt gN rfl).2
  have z3 := hb3.size
  have z4 := hb4.size
  have bB4 : Below wB.heap.size wB w4 := Ext.then_ hb23 hb4
  obtain ⟨m, hm⟩ : ∃ m, st.n = m := ⟨_, rfl⟩
  have mB : m ≤ 256 := by rw [← hm]; exact NB
  have SVW : Hid (∀ V, Chg (fun b => b = gN ∨ w4.heap.size ≤ b) w4 V → ∀ v, v < m → V.cell? ⟨og, v * 4, none⟩ = some (.int .i64 (st.born v)) ∧ V.cell? ⟨og, v * 4 + 1, none⟩ = some (.int .i64 ((st.place v : Nat) : Int)) ∧ V.cell? ⟨og, v * 4 + 2, none⟩ = some (.int .i64 (st.dies v)) ∧ V.cell? ⟨og, v * 4 + 3, none⟩ = some (.slice (some ⟨(P v).1, 0, none⟩) (Ls v).length (P v).2) ∧ og < V.heap.size ∧ V.ownsRow w3.heap.size 2 1 (.slice (some ⟨(P v).1, 0, none⟩) (Ls v).length (P v).2) (Ls v).length (ints (nums (Ls v)))) := fun V hV v hv => by
    rw [← hm] at hv
    have lo := hSV.lts.2.1
    have oo := hV.own hSV.out (fun g e hb => by have h1 : og = g := Option.some.inj e; have h2 : g = gN ∨ w4.heap.size ≤ g := hb; omega)
    have c0 := (oo.cellAt (v * 4 + 0) (by omega)).trans (row4_get _ hv (by omega))
    have c1 := (oo.cellAt (v * 4 + 1) (by omega)).trans (row4_get _ hv (by omega))
    have c2 := (oo.cellAt (v * 4 + 2) (by omega)).trans (row4_get _ hv (by omega))
    have c3 := (oo.cellAt (v * 4 + 3) (by omega)).trans (row4_get _ hv (by omega))
    have l3 := hSV.lts.2.2 v hv
    exact ⟨c0, c1, c2, c3, (oo.lt og rfl).2, hV.own (hSV.set v hv) (fun g e hb => by have h1 : (P v).1 = g := Option.some.inj e; have h2 : g = gN ∨ w4.heap.size ≤ g := hb; omega)⟩
  have MEM : Hid (∀ v, v < m → (∀ q, q ∈ Ls v ↔ st.mem v q = true) ∧ (Ls v).length ≤ 256 ∧ ∀ q ∈ Ls v, q < N) := fun v hv => by
    rw [← hm] at hv
    have h1 := hSV.mem v hv
    have h2 : ∀ q ∈ Ls v, q < N := fun q hq => OKV.out.lt v q hv ((h1.2 q).1 hq)
    exact ⟨h1.2, Nat.le_trans (nodup_le h1.1 h2) hnl, h2⟩
  have FS := Lib.hid (fun (k : Nat) (e : skipV st dp k = true) => fillTo_skip G e)
  have FF := Lib.hid (fun (k : Nat) (e : skipV st dp k = false) (hk : k < m) => fillTo_fill G e (MEM.out k hk).1)
  have IA := Lib.hid (fun (l : List Nat) (i : Nat) (D : Int) (Q : Nat → Int) => incF_app l i D Q)
  have F0 : Hid (fillTo st dp G 0 = G) := rfl
  have C4 := Chg.refl (fun b => b = gN ∨ w4.heap.size ≤ b) w4
  have HM := Lib.hid hm
  rw [← F0.out] at own4
  obtain ⟨b2, hb2'⟩ : ∃ b2, w2.heap.size = b2 := ⟨_, rfl⟩
  rw [hb2'] at own4
  obtain ⟨b3, hb3'⟩ : ∃ b3, w3.heap.size = b3 := ⟨_, rfl⟩
  rw [hb3'] at SVW
  rw [hm]
  clear hSV hm own3 hb4 hb3 hb2' hb3'
  go_wp2_with fail
  go_loopw [27] (fun kv wr => ∃ k : Nat, k ≤ m ∧ kv = .int .i64 k ∧ wr.ownsRow b2 2 1 (.slice (some ⟨gN, 0, none⟩) N c3) N (ints (fL (fillTo st dp G k) N)) ∧ Chg (fun b => b = gN ∨ w4.heap.size ≤ b) w4 wr) (fun kv _ => m - (intOf kv).toNat)
  case atStart => exact ⟨0, Nat.zero_le _, rfl, own4, C4⟩
  case round =>
    obtain ⟨k, hk, rfl, hO, hC⟩ := hrel
    clear own4 C4
    by_cases hlt : k < m
    · obtain ⟨e0, e1, e2, e3, l1, rw1⟩ := SVW.out wr hC k hlt
      have TP := TOP.out k
      obtain ⟨-, b0, bd⟩ := BD.out k (by rw [HM.out]; exact hlt)
      have lenB := (MEM.out k hlt).2.1
      have i0 : (0 : Int) ≤ (k : Int) := by omega
      have i1 : (k : Int) < (m : Int) := by omega
      have wk : IntKind.i64.wrap ((k : Int) + 1) = ((k + 1 : Nat) : Int) := by rw [IntWalk.i64_in _ (by omega)]; simp
      have FS1 := Lib.hid (FS.out k)
      have FF1 := Lib.hid (fun e => FF.out k e hlt)
      have SK : Hid (skipV st dp k = (decide (st.dies k < 0) || decide (dp ≤ st.dies k - st.born k))) := rfl
      obtain ⟨Q, hQ⟩ : ∃ Q, fillTo st dp G k = Q := ⟨_, rfl⟩
      rw [hQ] at hO FS1 FF1
      obtain ⟨dd, hdd⟩ : ∃ dd, st.dies k = dd := ⟨_, rfl⟩
      obtain ⟨bb, hbb⟩ : ∃ bb, st.born k = bb := ⟨_, rfl⟩
      have HDD := Lib.hid hdd
      rw [hdd] at e2 bd SK TP FF1
      rw [hbb] at e0 b0 bd SK TP
      obtain ⟨pp, hpp⟩ : ∃ pp : Int, ((st.place k : Nat) : Int) = pp := ⟨_, rfl⟩
      rw [hpp] at e1
      have wdb : IntKind.i64.wrap (dd - bb) = dd - bb := IntWalk.i64_in _ (by omega)
      obtain ⟨n, hnL⟩ : ∃ n, (Ls k).length = n := ⟨_, rfl⟩
      have HNL := Lib.hid hnL
      rw [hnL] at e3 lenB
      obtain ⟨gk, hgk⟩ : ∃ gk, (P k).1 = gk := ⟨_, rfl⟩
      obtain ⟨ck, hck⟩ : ∃ ck, (P k).2 = ck := ⟨_, rfl⟩
      have HPK := Lib.hid (And.intro hgk hck)
      rw [hgk, hck] at e3
      have EX1 := Ext.more (Ext.refl wr) (.cells #[.int .i64 bb, .int .i64 pp, .int .i64 dd, .slice (some ⟨gk, 0, none⟩) n ck] 89)
      have TB := Blk.made wr 89 #[.int .i64 bb, .int .i64 pp, .int .i64 dd, .slice (some ⟨gk, 0, none⟩) n ck]
      have O1 := own_ext EX1 hO
      have C1 := hC.ext EX1
      obtain ⟨bv, hbv⟩ : ∃ bv, wr.heap.size = bv := ⟨_, rfl⟩
      have lbv : w4.heap.size ≤ bv := by rw [← hbv]; exact hC.size
      rw [hbv] at TB
      have HH := Lib.hid (And.intro O1 C1)
      have HTB := Lib.hid TB
      clear hdd hbb hQ hnL hgk hck hpp O1 C1 rw1 EX1 hO hC
      go_upto_region 9 with fail
      try simp only [hbv]
      generalize wr.alloc (.cells #[.int .i64 bb, .int .i64 pp, .int .i64 dd, .slice (some ⟨gk, 0, none⟩) n ck] 89) = wS at *
      have y0 := TB.cell 0
      have y2 := TB.cell 2
      have y3 := TB.cell 3
      simp at y0 y2 y3
      have lB' := TB.lt
      clear e0 e1 e2 e3 l1 TB hbv
      by_cases h0 : dd < 0
      · have t1 : decide (dd < 0) = true := decide_eq_true h0
        have FS2 := Lib.hid (FS1.out (by rw [SK.out, t1]; rfl))
        clear FS1 FF1 SK bd TP h0
        go_wp2_with fail
        exact ⟨⟨k + 1, by omega, by go_num, by rw [FS2.out]; exact HH.out.1, HH.out.2⟩, by simp [intOf]; omega⟩
      · have t1 : decide (dd < 0) = false := decide_eq_false h0
        obtain ⟨r, hr⟩ : ∃ r, decide (dp ≤ dd - bb) = r := ⟨_, rfl⟩
        have RS : Hid (skipV st dp k = r) := by rw [Hid, SK.out, t1, hr]; rfl
        clear SK bd TP h0
        cases r with
        | true =>
          have FS2 := Lib.hid (FS1.out RS.out)
          clear FS1 FF1
          go_wp2_with fail
          exact ⟨⟨k + 1, by omega, by go_num, by rw [FS2.out]; exact HH.out.1, HH.out.2⟩, by simp [intOf]; omega⟩
        | false =>
          have FF2 := Lib.hid (FF1.out RS.out)
          clear FS1 FF1
          have HH0 := Lib.hid (And.intro HH.out HTB.out)
          go_wp2_with fail
          go_loopw [49] (fun jv wr => ∃ j : Nat, j ≤ n ∧ jv = .int .i64 j ∧ wr.ownsRow b2 2 1 (.slice (some ⟨gN, 0, none⟩) N c3) N (ints (fL (incF ((Ls k).take j) dd Q) N)) ∧ Chg (fun b => b = gN ∨ w4.heap.size ≤ b) w4 wr ∧ Blk wr bv 89 #[.int .i64 bb, .int .i64 pp, .int .i64 dd, .slice (some ⟨gk, 0, none⟩) n ck]) (fun jv _ => n - (intOf jv).toNat)
          case atStart => exact ⟨0, Nat.zero_le _, rfl, by rw [List.take_zero, incF_nil]; exact HH0.out.1.1, HH0.out.1.2, HH0.out.2⟩
          case round =>
            obtain ⟨j, hj, rfl, hIj, hCj, hTj⟩ := hrel
            clear HH HH0 y0 y2 y3 lB' HTB
            by_cases hjl : j < n
            · have f7 := (SVW.out wr hCj k hlt).2.2.2.2.2
              rw [HNL.out, HPK.out.1, HPK.out.2] at f7
              have y1 := (f7.cellAt j (by omega)).trans (nums_get (by rw [HNL.out]; exact hjl))
              have zb := (MEM.out k hlt).2.2 _ (List.getElem_mem (l := Ls k) (n := j) (by rw [HNL.out]; exact hjl))
              have TK : Hid ((Ls k).take (j + 1) = (Ls k).take j ++ [(Ls k)[j]'(by rw [HNL.out]; exact hjl)]) := List.take_succ_eq_append_getElem (by rw [HNL.out]; exact hjl)
              generalize (Ls k)[j]'(by rw [HNL.out]; exact hjl) = z at *
              have gk1 := (f7.lt gk rfl).2
              have gN2 := (hIj.lt gN rfl).2
              have y3 : wr.cell? ⟨gN, z, none⟩ = some (.int .i64 (incF ((Ls k).take j) dd Q z)) := by
                rw [hIj.cellAt z (by omega), List.getElem?_eq_getElem (by simp [ints, fL_length]; exact zb)]
                simp [ints, fL]
              have u2 := hTj.cell 2
              have u3 := hTj.cell 3
              simp at u2 u3
              have l1 := hTj.lt
              have j0 : (0 : Int) ≤ (j : Int) := by omega
              have j1 : (j : Int) < (n : Int) := by omega
              have x0 : (0 : Int) ≤ (z : Int) := by omega
              have x1 : (z : Int) < (N : Int) := by omega
              have wj : IntKind.i64.wrap ((j : Int) + 1) = ((j + 1 : Nat) : Int) := by rw [IntWalk.i64_in _ (by omega)]; simp
              have HIS := Lib.hid (And.intro hIj (And.intro hCj hTj))
              have FZ := Lib.hid (fun V (hV : Below wr.heap.size wr V) => (own_ext hV hIj).frozenAt z)
              have CZ := Lib.hid (fun V (hV : Below wr.heap.size wr V) => (hV.cell (p := ⟨gN, z, none⟩) gN2).trans y3)
              obtain ⟨oz, hoz⟩ : ∃ oz, incF ((Ls k).take j) dd Q z = oz := ⟨_, rfl⟩
              have HOZ := Lib.hid hoz
              rw [hoz] at y3 CZ
              clear f7 hIj hCj hTj hoz
              go_upto_region 13 with fail
              refine wp_region_held_tail 18 (fun V => Below wr.heap.size wr V) (by kernel_rfl) (by kernel_rfl) (Ext.refl _).drew ?_
              simp only [List.take_succ_cons, List.take_zero, List.drop_succ_cons, List.drop_zero]
              have ne : Nonempty (HeldW (fun V => Below wr.heap.size wr V)) := ⟨⟨wr, Ext.refl _⟩⟩
              have k0 : ∀ i : HeldW (fun V => Below wr.heap.size wr V), i.w.cell? ⟨gN, z, none⟩ = some (.int .i64 oz) := fun i => (i.h.cell (p := ⟨gN, z, none⟩) gN2).trans y3
              have k1 : ∀ i : HeldW (fun V => Below wr.heap.size wr V), i.w.cell? ⟨bv, 2, none⟩ = some (.int .i64 dd) := fun i => (i.h.cell (p := ⟨bv, 2, none⟩) l1).trans u2
              have k2 : ∀ i : HeldW (fun V => Below wr.heap.size wr V), i.w.cell? ⟨bv, 3, none⟩ = some (.slice (some ⟨gk, 0, none⟩) n ck) := fun i => (i.h.cell (p := ⟨bv, 3, none⟩) l1).trans u3
              have k3 : ∀ i : HeldW (fun V => Below wr.heap.size wr V), i.w.cell? ⟨gk, j, none⟩ = some (.int .i64 z) := fun i => (i.h.cell (p := ⟨gk, j, none⟩) gk1).trans y1
              repeat (go_big_quiet_step ((go_at_call 64; exact Calls.above_of _ (MX.out _ _ _))))
              refine wpQuiet_nil ?_
              intro wa hw'
              obtain ⟨⟨_, hba⟩, rfl⟩ := hw'
              clear ne k0 k1 k2 k3
              have q2 := FZ.out wa hba
              have q3 := CZ.out wa hba
              have IX := ((own_ext hba HIS.out.1).stored z (.int .i64 (max oz dd))).1
              rw [ints_setV, fL_set, ← HOZ.out, ← IA.out, ← TK.out, HOZ.out] at IX
              have CX := (HIS.out.2.1.ext hba).store (p := ⟨gN, z, none⟩) (.inl rfl) (.int .i64 (max oz dd))
              have BX := (HIS.out.2.2.under hba HIS.out.2.2.lt).apart (p := ⟨gN, z, none⟩) (by show bv ≠ gN; omega) (.int .i64 (max oz dd))
              have HX := Lib.hid (And.intro IX (And.intro CX BX))
              clear IX CX BX hba HIS FZ CZ y1 y3 u2 u3 HOZ
              go_wp2_with fail
              exact ⟨⟨j + 1, by omega, by go_num, HX.out.1, HX.out.2.1, HX.out.2.2⟩, by simp [intOf]; omega⟩
            · obtain rfl : n = j := by omega
              have HJ := Lib.hid (And.intro hIj hCj)
              have TT : Hid ((Ls k).take n = Ls k) := List.take_of_length_le (by rw [HNL.out]; omega)
              clear hIj hCj hTj
              go_wp2_with fail
              exact ⟨⟨k + 1, by omega, by go_num, by rw [← FF2.out, ← TT.out]; exact HJ.out.1, HJ.out.2⟩, by simp [intOf]; omega⟩
    · obtain rfl : m = k := by omega
      have bW : Below wB.heap.size wB wr := bB4.trans (hC.below (fun k hk => by have h2 : k = gN ∨ w4.heap.size ≤ k := hk; have := bB4.size; omega) bB4.size)
      have RR := Lib.hid (RW.out wr gN c3 b2 _ hO)
      have WR := Lib.hid (WG.out wr (GX.out _ bW))
      have HB := Lib.hid bW
      clear hO hC bW
      go_wp2_with fail
      refine WR.out.mono ?_
      rintro e w5 ⟨rfl, rfl⟩
      go_wp2_with fail
      refine RR.out.mono ?_
      rintro e w6 ⟨A6, c6, vs6, rfl, hm6, hb6⟩
      have bW6 := Ext.then_ HB.out hb6
      have T3 := T2.under bW6 T2.lt
      have c2 := T3.cell 0
      have f2 := T3.free 0
      have cs := (T3.store 0 (.slice A6 H c6)).cell 0
      simp at c2 cs
      have HF := Lib.hid (And.intro hm6 bW6)
      have zr := HB.out.size
      have zr6 := hb6.size
      clear hm6 bW6 hb6
      go_wp2_with fail
      refine bodyPost_ret (v := .tuple #[.agg #[.slice A6 H c6], .bool true]) (by simp [results, Try.results33, go_sem, cs]) rfl ?_
      refine ⟨A6, c6, vs6, by rw [GLn.out], ?_, ?_⟩
      · have hk := HF.out.1.keep ((Chg.refl (fun b => b < wr.heap.size) w6).store (p := ⟨w.heap.size + 1, 0, none⟩) (by show w.heap.size + 1 < wr.heap.size; omega) (.slice A6 H c6)) (fun b h1 h2 h3 => by omega)
        have hz : (w6.setCell ⟨w.heap.size + 1, 0, none⟩ (.slice A6 H c6)).heap.size = w6.heap.size := by simp [World.setCell]
        rw [hz, HM.out]
        exact hk.low (by omega) (by omega)
      · exact (Ext.then_ B1 HF.out.2).setCell (p := ⟨w.heap.size + 1, 0, none⟩) (by show w.heap.size ≤ w.heap.size + 1; omega) _
end Go.Proofs.Ytkamkjbllmgifaa
