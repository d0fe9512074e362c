/- Valleys that last: the reference's list. ValleysOf: the reference's. -/
import Derived.Test.YtkamkjbllmgifaaVlV
import Derived.Test.YtkamkjbllmgifaaPsS
import Derived.Deep.RegionLaw
namespace Go.Proofs.Ytkamkjbllmgifaa
open Go.RowKit
open Vl

set_option maxRecDepth 100000 in
set_option maxHeartbeats 4000000 in
theorem pairs_any (p : Nat) (A : Option Addr) (c : Nat) (rows : List (List Int)) (w : World) (h : GreyAt w p A c rows) (hok : greyOk rows = true) :
    Calls Try.prog 56 #[.pointer (some ⟨p, 0, none⟩)] w fun e w' => ∃ A' c' vs, e = .returned (.slice A' (lastR (vSt rows) (vSt rows).n).length c') ∧ MatAt w' w.heap.size w'.heap.size A' c' vs (lastR (vSt rows) (vSt rows).n) ∧ Below w.heap.size w w' := by
  have EX0 := Ext.more (Ext.refl w) (.cells #[] 34)
  have z1 : (w.alloc (.cells #[] 34)).heap.size = w.heap.size + 1 := by simp
  obtain ⟨W, hW⟩ : ∃ W, tabW rows = W := ⟨_, rfl⟩
  obtain ⟨H, hH⟩ : ∃ H, rows.length = H := ⟨_, rfl⟩
  have GN : GreyN rows W H (W * H) := ⟨hok, hW, hH, rfl⟩
  obtain ⟨x1, x2, x3, x4⟩ := GN.w1
  have h1 := h.ext EX0
  have GG := Lib.hid (fun V (hV : Below (w.heap.size + 1) (w.alloc (.cells #[] 34)) V) => widthG_any p A c rows V (h1.ext (by rw [z1]; exact hV)) (by rw [hH]; exact x3))
  rw [hW] at GG
  have LG := Lib.hid (fun V (hV : Below (w.heap.size + 1) (w.alloc (.cells #[] 34)) V) => list_any A c rows W H (W * H) V (h1.rd.ext (by rw [z1]; exact hV)) hH GN.row x1 x2 x4 (by rw [Nat.mul_comm]))
  have PG := Lib.hid (fun V A1 c1 (r1 : Rd V A1 (ints rows.flatten)) => valleysS_any W H (W * H) A1 c1 rows.flatten V x1 x2 x4 rfl GN.len GN.bd r1 (gF rows W) GN.get)
  have c0 := h1.cell
  have O0 := World.ownsRow_lit (e := 34) (size := 1) w #[] 0 (Nat.le_refl _) (by decide) rfl
  have BD := Lib.hid (vSt_bd hok)
  have NB := vSt_n hok
  have EV : Hid (fold (nbN (tabW rows) rows.length) (gF rows (tabW rows)) (ordS (gF rows (tabW rows)) (tabW rows * rows.length) 100) = vSt rows) := rfl
  have ES : Hid (fold (nbN W H) (gF rows W) (ordS (gF rows W) (W * H) 100) = vSt rows) := by rw [Hid, ← hW, ← hH]; rfl
  have PG2 : Hid (∀ V A1 c1, Rd V A1 (ints rows.flatten) → Calls Try.prog 63 #[.int .i64 W, .slice A1 (W * H : Nat) c1] V fun e w' => ∃ gb og oc P Ls, e = .returned (.slice (some ⟨og, 0, none⟩) (vSt rows).n oc) ∧ SV V.heap.size (W * H) gb og oc P Ls (vSt rows) w' ∧ Below V.heap.size V w') := fun V A1 c1 r => by
    have := PG.out V A1 c1 r
    rw [ES.out] at this; exact this
  rw [hH] at c0
  have Z1 := Lib.hid z1
  have hlt := h1.lt
  obtain ⟨w1, hw1⟩ : ∃ w1, w1 = w.alloc (.cells #[] 34) := ⟨_, rfl⟩
  rw [← hw1] at EX0 Z1 GG LG c0 hlt h1 O0
  obtain ⟨NWH, hNWH⟩ : ∃ z, z = W * H := ⟨_, rfl⟩
  rw [← hNWH] at LG PG2
  clear h hok EV PG ES GN hNWH z1
  generalize vSt rows = st at *
  go_enter Try.func56, Try.ntmps56
  go_wp2_with fail
  try simp only [← hw1]
  have R0 : Hid (Below (w.heap.size + 1) w1 w1.drew) := by rw [← Z1.out]; exact Ext.draw (Ext.refl w1)
  clear hw1
  go_cut [4] (fun s4 wx => ∃ gb og oc P Ls b0, s4 = .slice (some ⟨og, 0, none⟩) st.n oc ∧ SV b0 NWH gb og oc P Ls st wx ∧ Below (w.heap.size + 1) w1 wx ∧ Hid (w.heap.size + 1 ≤ b0))
  case first =>
    go_region_law (first
      | (go_simp; go_at_call 49; refine (GG.out _ (by first | exact R0.out | assumption)).mono ?_; rintro e w' ⟨rfl, rfl⟩)
      | (go_simp; go_at_call 47; refine (LG.out _ (by first | exact R0.out | assumption)).mono ?_; rintro e w4 ⟨A4, c4, rfl, own4, hb4⟩; have hB4 : Below (w.heap.size + 1) w1 w4 := R0.out.trans (hb4.mono (by have := Z1.out; show w.heap.size + 1 ≤ w1.heap.size; omega)))
      | (go_simp; go_at_call 63; refine (PG2.out _ _ _ (Rd.of_own own4)).mono ?_; rintro e w5 ⟨gb, og, oc, P, Ls, rfl, hSV, hb5⟩))
    all_goals
      have hB5 : Below (w.heap.size + 1) w1 w5 := hB4.trans (hb5.mono (by have := hB4.size; have := Z1.out; omega))
      go_wp2_with fail
      go_meet
      exact ⟨gb, og, oc, P, Ls, _, rfl, hSV, hB5, by have := hB4.size; have := Z1.out; rw [Hid]; omega⟩
  obtain ⟨gb, og, oc, P, Ls, b0, rfl, hSV, hb2, hb0⟩ := hcut
  obtain ⟨w2, hw2⟩ : ∃ w2 : World, w2 = wc := ⟨_, rfl⟩
  rw [← hw2] at hSV hb2 ⊢
  clear hw2
  have O2 := own_ext (by rw [Z1.out]; exact hb2) O0
  have B2 : Below w.heap.size w w2 := EX0.trans (hb2.mono (by omega))
  have z2 := hb2.size
  rw [Z1.out] at z2
  obtain ⟨m, hm⟩ : ∃ m, st.n = m := ⟨_, rfl⟩
  have HM := Lib.hid hm
  have mB : m ≤ 256 := by rw [← hm]; exact NB
  have IVW : Hid (∀ V, Chg (fun b => b < w.heap.size + 1 ∨ w2.heap.size ≤ b) w2 V → ∀ v, v < m → V.cell? ⟨og, v * 4, none⟩ = some (.int .i64 (st.born v)) ∧ V.cell? ⟨og, v * 4 + 1, none⟩ = some (.int .i64 ((st.place v : Nat) : Int)) ∧ V.cell? ⟨og, v * 4 + 2, none⟩ = some (.int .i64 (st.dies v)) ∧ og < V.heap.size) := fun V hV v hv => by
    rw [← hm] at hv
    have lo := hSV.lts.2.1
    have oo := hV.own hSV.out (fun g e hb => by have h1 : og = g := Option.some.inj e; have h2 : g < w.heap.size + 1 ∨ w2.heap.size ≤ g := hb; have := hb0.out; omega)
    have c0 := (oo.cellAt (v * 4 + 0) (by omega)).trans (row4_get _ hv (by omega))
    have c1 := (oo.cellAt (v * 4 + 1) (by omega)).trans (row4_get _ hv (by omega))
    have c2 := (oo.cellAt (v * 4 + 2) (by omega)).trans (row4_get _ hv (by omega))
    exact ⟨c0, c1, c2, (oo.lt og rfl).2⟩
  have M2 : MatAt w2 w.heap.size w2.heap.size (some ⟨w.heap.size, 0, none⟩) 0 [] (lastR st 0) := MatAt.nil w2 _ _ _ _ O2 (fun a ha => by cases ha; show w.heap.size < w2.heap.size; omega)
  have HB2 := Lib.hid B2
  rw [hm]
  clear hSV hb2 O2 O0 EX0 Z1 hm B2 GG LG PG2 R0 c0 hlt h1
  go_wp2_with fail
  go_loopw [3, 17] (fun ov kv wr => ∃ (k g c' : Nat) (vs : List Value), k ≤ m ∧ kv = .int .i64 k ∧ ov = .slice (some ⟨g, 0, none⟩) (lastR st k).length c' ∧ MatAt wr w.heap.size wr.heap.size (some ⟨g, 0, none⟩) c' vs (lastR st k) ∧ Chg (fun b => b < w.heap.size + 1 ∨ w2.heap.size ≤ b) w2 wr ∧ Below w.heap.size w wr ∧ Hid (g < w.heap.size + 1 ∨ w2.heap.size ≤ g)) (fun _ kv _ => m - (intOf kv).toNat)
  case atStart => exact ⟨0, w.heap.size, 0, [], Nat.zero_le _, rfl, rfl, M2, Chg.refl _ _, HB2.out, .inl (by omega)⟩
  case round =>
    obtain ⟨k, g, c', vs, hk, rfl, rfl, hM, hC, hB, hG⟩ := hrel
    clear M2 HB2
    by_cases hlt : k < m
    · obtain ⟨c0, c1, c2, l1⟩ := IVW.out wr hC k hlt
      obtain ⟨-, b0, bd⟩ := BD.out k (by rw [HM.out]; exact hlt)
      have LY := Lib.hid (lastR_yes (st := st) (k := k))
      have LN := Lib.hid (lastR_no (st := st) (k := k))
      have LL := lastR_len st k
      have i0 : (0 : Int) ≤ (k : Int) := by omega
      have i1 : (k : Int) < (m : Int) := by omega
      have wk : IntKind.i64.wrap ((k : Int) + 1) = ((k + 1 : Nat) : Int) := by rw [IntWalk.i64_in _ (by omega)]; simp
      have HM' := Lib.hid hM
      have HCB := Lib.hid (And.intro hC hB)
      have mk := HM.out
      have BND : Hid (k < st.n) := by rw [Hid, HM.out]; exact hlt
      obtain ⟨dd, hdd⟩ : ∃ dd, st.dies k = dd := ⟨_, rfl⟩
      obtain ⟨bb, hbb⟩ : ∃ bb, st.born k = bb := ⟨_, rfl⟩
      rw [hdd] at c2 bd LY LN
      rw [hbb] at c0 b0 bd LY LN
      generalize hpp : ((st.place k : Nat) : Int) = pp at *
      clear hM hC hB hdd hbb hpp mk
      go_upto_region 6 with fail
      go_cut [30] (fun c wx => c = .bool (!decide (dd = bb)) ∧ Below wr.heap.size wr wx)
      case first =>
        have RS : Hid ((dd != bb) = !decide (dd = bb)) := by rw [Hid]; by_cases e : dd = bb <;> simp [e]
        clear LY LN bd
        refine wp_region_held_quiet (fun U => Below wr.heap.size wr U) (by kernel_rfl) (by kernel_rfl) (Ext.refl _).drew ?_
        have ne : Nonempty (HeldW (fun U => Below wr.heap.size wr U)) := ⟨⟨wr, Ext.refl _⟩⟩
        have v0 : ∀ i : HeldW (fun U => Below wr.heap.size wr U), i.w.cell? ⟨og, k * 4, none⟩ = _ := fun i => (i.h.cell (p := ⟨og, k * 4, none⟩) l1).trans c0
        have v1 : ∀ i : HeldW (fun U => Below wr.heap.size wr U), i.w.cell? ⟨og, k * 4 + 2, none⟩ = _ := fun i => (i.h.cell (p := ⟨og, k * 4 + 2, none⟩) l1).trans c2
        repeat (go_big_quiet_step (fail))
        refine wpQuiet_nil ?_
        intro w4 hw'
        obtain ⟨⟨_, hb4⟩, rfl⟩ := hw'
        clear ne v0 v1
        have HB4 := Lib.hid hb4
        clear hb4
        go_wp2_with fail
        go_meet
        exact ⟨by rw [← RS.out], HB4.out⟩
      case rest =>
        obtain ⟨rfl, hb4⟩ := hcut
        have B4 := HCB.out.2.trans (hb4.mono HCB.out.2.size)
        have C4 : Chg (fun b => b < w.heap.size + 1 ∨ w2.heap.size ≤ b) w2 wc := HCB.out.1.ext hb4
        have M4 := (HM'.out.ext hb4).low (Nat.le_refl _) hb4.size
        by_cases hne : dd = bb
        · have LN2 := Lib.hid (LN.out hne)
          rw [decide_eq_true hne]
          have HH := Lib.hid (And.intro M4 (And.intro C4 B4))
          clear LY LN bd hne M4 C4 B4 hb4
          go_wp2_with fail
          exact ⟨⟨k + 1, g, c', vs, by omega, by go_num, by rw [LN2.out], by rw [LN2.out]; exact HH.out.1, HH.out.2.1, HH.out.2.2, hG.out⟩, by simp [intOf]; omega⟩
        · have LY2 := Lib.hid (LY.out hne)
          rw [decide_eq_false hne]
          have d0 := (hb4.cell (p := ⟨og, k * 4, none⟩) l1).trans c0
          have d1 := (hb4.cell (p := ⟨og, k * 4 + 1, none⟩) l1).trans c1
          have d2 := (hb4.cell (p := ⟨og, k * 4 + 2, none⟩) l1).trans c2
          have hou := M4.outer
          have lw4 : w.heap.size ≤ wc.heap.size := B4.size
          have lw5 : w2.heap.size ≤ wc.heap.size := C4.size
          have FX : Hid (∀ g5 c5 (w5 : World), w5.ownsRow w.heap.size 34 1 (.slice (some ⟨g5, 0, none⟩) ((lastR st k).length + 1) c5) ((lastR st k).length + 1) (vs ++ [.slice (some ⟨wc.heap.size, 0, none⟩) 3 3]) → World.grownBy ((wc.drew.alloc (.cells #[.int .i64 bb, .int .i64 pp, .int .i64 dd] 2)).alloc (.cells #[.slice (some ⟨wc.heap.size, 0, none⟩) 3 3] 34)) w5 (some g) → (some g = some g5 ∨ g5 = ((wc.drew.alloc (.cells #[.int .i64 bb, .int .i64 pp, .int .i64 dd] 2)).alloc (.cells #[.slice (some ⟨wc.heap.size, 0, none⟩) 3 3] 34)).heap.size) →
              MatAt w5 w.heap.size w5.heap.size (some ⟨g5, 0, none⟩) c5 (vs ++ [.slice (some ⟨wc.heap.size, 0, none⟩) 3 3]) (lastR st (k + 1)) ∧ (lastR st (k + 1)).length = (lastR st k).length + 1 ∧ Chg (fun b => b < w.heap.size + 1 ∨ w2.heap.size ≤ b) w2 w5 ∧ Below w.heap.size w w5 ∧ Hid (g5 < w.heap.size + 1 ∨ w2.heap.size ≤ g5)) := by
            intro g5 c5 w5 ho5 hg5 hat5
            have M4d := M4.ext (Ext.draw (Ext.refl wc))
            have X1 := Ext.more (Ext.draw (Ext.refl wc)) (.cells #[.int .i64 bb, .int .i64 pp, .int .i64 dd] 2)
            have X2 := Ext.more X1 (.cells #[.slice (some ⟨wc.heap.size, 0, none⟩) 3 3] 34)
            have HRW := World.ownsRow_lit (e := 2) (size := 1) wc.drew #[.int .i64 bb, .int .i64 pp, .int .i64 dd] 3 (base := wc.heap.size) (Nat.le_refl _) (by decide) rfl
            have PU := MatAt.push (r := [bb, pp, dd]) M4d (Ext.more (Ext.refl wc.drew) _) HRW lw4 (Nat.le_refl _) hg5 ho5
            rw [LY2.out]
            refine ⟨PU, by simp, ?_, (B4.trans (X2.mono lw4)).grown hg5 (by have : w.heap.size ≤ wc.drew.heap.size := lw4; simp; omega) (fun z hz => by have h1 : g = z := Option.some.inj hz; have h2 := (hou.lt g rfl).1; omega), ?_⟩
            · exact (C4.ext X2).trans ((Chg.of_rowV hg5).mono (fun b hb => by have h1 : g = b := Option.some.inj hb; rw [← h1]; exact hG.out))
            · rcases hat5 with h | h
              · rw [← Option.some.inj h]; exact hG.out
              · refine .inr ?_
                have h3 : wc.drew.heap.size = wc.heap.size := rfl
                simp at h; omega
          clear LY LN bd hne M4 C4 B4 hb4 c0 c1 c2
          go_wp2_with fail
          go_region_law (refine step_app rowT (by rfl) _ _ (by rfl) w.heap.size (.slice (some ⟨g, 0, none⟩) (lastR st k).length c') (lastR st k).length vs (by rfl) ((hou.alloc _).alloc _) (wc.heap.size + 1) #[.slice (some ⟨wc.heap.size, 0, none⟩) 3 3] (by rfl) (by have := heap_alloc_new (wc.drew.alloc (.cells #[.int .i64 bb, .int .i64 pp, .int .i64 dd] 2)) (.cells #[.slice (some ⟨wc.heap.size, 0, none⟩) 3 3] 34); rw [World.size_alloc] at this; exact this) rfl (by simp [Value.oneCell']) (by omega) (by simp; omega) ?_; intro g5 c5 w5 own5 hg5 hat5 hlt5)
          all_goals
            have F5 := Lib.hid (FX.out g5 c5 w5 own5 hg5 hat5)
            clear own5 hg5 hat5
            go_wp2_with fail
            exact ⟨⟨k + 1, g5, c5, _, by omega, by go_num, by rw [F5.out.2.1], F5.out.1, F5.out.2.2.1, F5.out.2.2.2.1, F5.out.2.2.2.2.out⟩, by simp [intOf]; omega⟩
    · obtain rfl : m = k := by omega
      have R := Lib.hid (And.intro hM hB)
      clear hM hC hB
      go_wp2_with fail
      go_ret
      exact ⟨_, c', vs, by rw [HM.out]; rfl, by rw [HM.out]; exact R.out.1, R.out.2⟩
end Go.Proofs.Ytkamkjbllmgifaa

namespace Go.Proofs.Ytkamkjbllmgifaa
open Go.RowKit

set_option maxRecDepth 100000 in
set_option maxHeartbeats 2000000 in
theorem valleysOfS_any (A : Option Addr) (c : Nat) (rows : List (List Int)) (w : World) (h : MatRd w A rows) (hn : rows.length ≤ 1000000000) (hr : ∀ i (h : i < rows.length), rows[i].length ≤ 1000000000) :
    Calls Try.prog 25 #[.agg #[.slice A rows.length c]] w (ValRes w (valR rows) (greyOk rows)) := by
  obtain ⟨wB, hwB⟩ : ∃ wB, w.alloc (.cells #[.slice A rows.length c] 26) = wB := ⟨_, rfl⟩
  have B1 : Below w.heap.size w wB := by rw [← hwB]; exact Ext.more (Ext.refl _) _
  have G1 : GreyAt wB w.heap.size A c rows := by rw [← hwB]; exact GreyAt.boxed h _
  have VG := Lib.hid (isGreyS_any w.heap.size A c rows wB G1 hn hr)
  have GX := Lib.hid (fun V (hb : Below wB.heap.size wB V) => G1.ext hb)
  have c0 := G1.cell
  cases hg : greyOk rows
  · have F2 : Hid (valR rows = []) := by rw [Hid, valR, hg]; rfl
    rw [hg] at VG
    rw [F2.out]
    clear hg hn hr h G1
    generalize rows.length = H at *
    go_enter Try.func25, Try.ntmps25
    go_wp2_with fail
    try simp only [hwB]
    refine (VG.out).mono ?_
    rintro e w2 ⟨rfl, kk, rfl⟩
    have hb : Below wB.heap.size wB (wB.drewN kk) := Ext.drawN (Ext.refl wB) kk
    go_wp2_with fail
    go_ret2
    exact ⟨none, 0, [], rfl, MatAt.nil _ _ _ _ _ (World.ownsRow_nil _ _ _ _) (fun a ha => by cases ha), Ext.then_ B1 hb⟩
  · have F2 : Hid (valR rows = lastR (vSt rows) (vSt rows).n) := by rw [Hid, valR, hg]; rfl
    rw [hg] at VG
    have LA := Lib.hid (fun V (hV : GreyAt V w.heap.size A c rows) => pairs_any w.heap.size A c rows V hV hg)
    rw [F2.out]
    clear hg hn hr h G1
    generalize lastR (vSt rows) (vSt rows).n = R at *
    generalize hH : rows.length = H at *
    clear hH
    go_enter Try.func25, Try.ntmps25
    go_wp2_with fail
    try simp only [hwB]
    refine (VG.out).mono ?_
    rintro e w2 ⟨rfl, kk, rfl⟩
    have hb : Below wB.heap.size wB (wB.drewN kk) := Ext.drawN (Ext.refl wB) kk
    go_wp2_with fail
    refine (LA.out _ (GX.out _ hb)).mono ?_
    rintro e w3 ⟨A3, c3, vs, rfl, hM, hb3⟩
    have B3 := Ext.then_ B1 hb
    go_wp2_with fail
    go_ret2
    exact ⟨A3, c3, vs, rfl, hM.low B3.size (Nat.le_refl _), Ext.then_ B3 hb3⟩
end Go.Proofs.Ytkamkjbllmgifaa
