/- The law FnWater, walked. -/
import Derived.Test.YtajepoopicoodaaR10
import Derived.Test.YtajepoopicoodaaWtrP
import Derived.Test.YtajepoopicoodaaB10S
import Derived.Test.YtajepoopicoodaaSpl
import Derived.Test.YtajepoopicoodaaHQ
import Derived.Deep.CutRange
import Derived.Deep.RegionHeld3
import Derived.Deep.DeepCutAuto
namespace Go.Proofs.Ytajepoopicoodaa
open Go.RowKit

section
variable {G O : Nat → Int} {W H : Nat} (h : Wtr G O W H) (hH : H ≤ 16) (hW : W ≤ 16)
include h hH hW
theorem lev_g {A : Option Addr} {c : Nat} {V : World} (hV : MatRd V A (gO G W H)) :
    Calls Try.prog 29 #[.agg #[.slice A H c]] V fun e w' => ∃ A' c', e = .returned (.tuple #[.agg #[.slice A' H c'], .bool true]) ∧ MatRd w' A' (gO O W H) ∧ Below V.heap.size V w' := by
  have k := levels_any A c (gO G W H) V hV (by rw [gO_length]; omega) (fun i hi => by rw [gO_w]; omega)
  rw [gO_length, h.lev, h.ok] at k
  refine k.mono (fun e w' q => ?_)
  obtain ⟨A', c', vs, rfl, hm, hb⟩ := q
  rw [gO_length]
  exact ⟨A', c', rfl, hm.rd, hb⟩
theorem wat_g {A : Option Addr} {c : Nat} {V : World} (hV : MatRd V A (gO G W H)) :
    Calls Try.prog 33 #[.agg #[.slice A H c]] V fun e w' => e = .returned (.tuple #[.int .i64 (sI (fun i => O i - G i) (W * H)), .bool true]) ∧ Below V.heap.size V w' := by
  have k := waterOf_any A c (gO G W H) V hV (by rw [gO_length]; omega) (fun i hi => by rw [gO_w]; omega)
  rwa [gO_length, h.sum, h.ok] at k
theorem wat_o {A : Option Addr} {c : Nat} {V : World} (hV : MatRd V A (gO O W H)) :
    Calls Try.prog 33 #[.agg #[.slice A H c]] V fun e w' => e = .returned (.tuple #[.int .i64 0, .bool true]) ∧ Below V.heap.size V w' := by
  have k := waterOf_any A c (gO O W H) V hV (by rw [gO_length]; omega) (fun i hi => by rw [gO_w]; omega)
  rwa [gO_length, h.rest, h.ok2] at k
theorem spill_g {A : Option Addr} {c x y : Nat} {V : World} (hV : MatRd V A (gO G W H)) (hx : x < W) (hy : y < H) :
    Calls Try.prog 27 #[.agg #[.slice A H c], .agg #[.int .i64 x, .int .i64 y]] V fun e w' => e = .returned (.tuple #[.int .i64 (O (y * W + x)), .bool true]) ∧ Below V.heap.size V w' := by
  have k := spillAt_any A c (gO G W H) x y V hV (by rw [gO_length]; omega) (fun i hi => by rw [gO_w]; omega)
  rwa [gO_length, h.spill x y hx hy, h.isin x y hx hy] at k
omit hW in
theorem steps_g {B : Option Addr} {m d : Nat} {l : List Int} (hm : m ≤ maxLen) {A : Option Addr} {c x y : Nat} {V : World} (hl : BytesAt V B m l) (hV : MatRd V A (gO G W H)) (hx : x < W) (hy : y < H) :
    Calls Try.prog 46 #[.slice B m d, .agg #[.slice A H c], .agg #[.int .i64 x, .int .i64 y]] V fun e w' => ∃ s : ByteArray, e = .returned (.string s) ∧ (∃ (px py : Nat) (hh : Int), ewV (gO G W H) x y s = some (((px : Int), (py : Int)), hh) ∧ px < W ∧ py < H ∧ (edgeB W H (py * W + px) = true → O (y * W + x) ≤ hh)) ∧ Below V.heap.size V w' := by
  have k := b10Steps_any B m d l A c (gO G W H) W H x y V hl hm hV h.ok (tabW_gO G (by omega)) (gO_length _ _ _) hx hy
  rw [gO_length] at k
  refine k.mono (fun e w' q => ?_)
  obtain ⟨s, rfl, hs, ⟨⟨p1, p2⟩, hh, hp⟩, hb⟩ := q
  obtain ⟨i1, i2⟩ := h.way _ x y _ _ hx hy hp
  obtain ⟨px, py, rfl, rfl, b1, b2, e1⟩ := inG_nat i1
  rw [e1] at i2
  refine ⟨s, rfl, ⟨px, py, hh, ?_, b1, b2, i2⟩, hb⟩
  rw [ewV, ewOk, h.isin x y hx hy, if_pos (by simp; omega), tabW_gO G (by omega), gO_length]
  exact hp
omit h in
theorem eow_g {A : Option Addr} {c : Nat} {x y : Nat} {s : ByteArray} {px py : Nat} {hh : Int} {V : World} (hV : MatRd V A (gO G W H)) (he : ewV (gO G W H) x y s = some (((px : Int), (py : Int)), hh)) :
    Calls Try.prog 19 #[.agg #[.slice A H c], .agg #[.int .i64 x, .int .i64 y], .string s] V fun e w' => e = .returned (.tuple #[.agg #[.int .i64 px, .int .i64 py], .int .i64 hh, .bool true]) ∧ Below V.heap.size V w' := by
  have k := endOfWay_any A c (gO G W H) x y s V hV (by rw [gO_length]; omega) (fun i hi => by rw [gO_w]; omega)
  rwa [gO_length, he] at k
end

theorem gO_rows {V : World} {A : Option Addr} {O : Nat → Int} {W H : Nat} (h : MatRd V A (gO O W H)) (hH : 0 < H) (hW : 0 < W) :
    ∃ g, A = some ⟨g, 0, none⟩ ∧ g < V.heap.size ∧ ∀ y, y < H → ∃ r cr, V.cell? ⟨g, y, none⟩ = some (.slice (some ⟨r, 0, none⟩) W cr) ∧ r < V.heap.size ∧ ∀ x, x < W → V.cell? ⟨r, x, none⟩ = some (.int .i64 (O (y * W + x))) := by
  obtain ⟨g, e, hg, hc⟩ := h (by rw [gO_length]; exact hH)
  refine ⟨g, e, hg, fun y hy => ?_⟩
  have hy' : y < (gO O W H).length := by rw [gO_length]; exact hy
  obtain ⟨Ai, ci, q1, q2⟩ := hc y hy'
  rw [gO_w] at q1
  obtain ⟨r, rfl, hr, hcr⟩ := q2 (by simp [ints, gO_w]; exact hW)
  refine ⟨r, ci, q1, hr, fun x hx => ?_⟩
  have hx' : x < (gO O W H)[y].length := by rw [gO_w]; exact hx
  have := hcr x (by simpa [ints] using hx')
  rw [this]
  simp [ints, gO_get]

theorem i64_sm {a : Int} (h0 : -1000000 ≤ a) (h1 : a ≤ 1000000) : IntKind.i64.wrap a = a := IntWalk.i64_in _ (by omega)
theorem i64_pred {a : Nat} (h1 : a ≤ 16) (h0 : 0 < a) : IntKind.i64.wrap ((a : Int) - 1) = (a : Int) - 1 := i64_sm (by omega) (by omega)
theorem i64_sub {a b : Int} (h0 : 0 ≤ a ∧ a ≤ 99) (h1 : 0 ≤ b ∧ b ≤ 99) : IntKind.i64.wrap (a - b) = a - b := i64_sm (by omega) (by omega)
theorem i64_acc {a d : Int} {k n : Nat} (h0 : -100 * (k : Int) ≤ a ∧ a ≤ 100 * (k : Int)) (hk : k < n) (hn : n ≤ 256) (h1 : 0 ≤ d ∧ d ≤ 99) : IntKind.i64.wrap (a + d) = a + d := i64_sm (by omega) (by omega)
theorem edge_cases {W H x y : Nat} (hx : x < W) (_hy : y < H) :
    (((x : Int) == 0) = true ∧ edgeB W H (y * W + x) = true) ∨ (((x : Int) == 0) = false ∧ ((((y : Int) == 0) = true ∧ edgeB W H (y * W + x) = true) ∨ (((y : Int) == 0) = false ∧ ((((x : Int) == (W : Int) - 1) = true ∧ edgeB W H (y * W + x) = true) ∨
      (((x : Int) == (W : Int) - 1) = false ∧ ((((y : Int) == (H : Int) - 1) = true ∧ edgeB W H (y * W + x) = true) ∨ (((y : Int) == (H : Int) - 1) = false ∧ edgeB W H (y * W + x) = false))))))) := by
  rw [edgeB_xy hx]
  by_cases c1 : x = 0
  · exact .inl ⟨by simp; omega, by simp [c1]⟩
  refine .inr ⟨by simp; omega, ?_⟩
  by_cases c2 : y = 0
  · exact .inl ⟨by simp; omega, by simp [c2]⟩
  refine .inr ⟨by simp; omega, ?_⟩
  by_cases c3 : x + 1 = W
  · exact .inl ⟨by simp; omega, by simp [c3]⟩
  refine .inr ⟨by simp; omega, ?_⟩
  by_cases c4 : y + 1 = H
  · exact .inl ⟨by simp; omega, by simp [c4]⟩
  exact .inr ⟨by simp; omega, by simp [c1, c2, c3, c4]⟩

theorem cell_more' {w : World} {o : Obj} {p : Addr} {v : Value} (h : p.block < w.heap.size) (hc : w.cell? p = some v) : (w.alloc o).cell? p = some v :=
  ((Ext.more (Ext.refl w) o).cell h).trans hc

set_option maxRecDepth 100000 in
set_option maxHeartbeats 4000000 in
theorem walkWater (w : World) (A : Option Addr) (n c : Nat) (l : List Int) (hl : BytesAt w A n l) (hn : n ≤ maxLen) (B : Option Addr) (m d : Nat) (l2 : List Int) (hl2 : BytesAt w B m l2) (hm : m ≤ maxLen) :
    Calls Try.prog 13 #[.slice A n c, .slice B m d] w fun e w' => e = .returned (.bool true) ∧ Below w.heap.size w w' := by
  have LO := Lib.hid (b10Long_any A B n c m d hn hm w)
  cases hlong : (decide (1048576 < n) || decide (1048576 < m))
  case true =>
    rw [hlong] at LO
    clear hl hl2 hn hm hlong
    go_enter Try.func13, Try.ntmps13
    go_wp2_with (go_at_call 43; refine LO.out.mono ?_; rintro e w' ⟨rfl, rfl⟩)
    go_ret
    exact ⟨rfl, Ext.refl _⟩
  rw [hlong] at LO
  have RG := Lib.hid (b10Grey_any A n c l w hl hn)
  clear hl hn hlong
  have HM := Lib.hid hm
  clear hm
  have BY := Lib.hid (fun V (hb : Below w.heap.size w V) => hl2.ext hb)
  clear hl2
  go_enter Try.func13, Try.ntmps13
  go_wp2_with (go_at_call 43; refine LO.out.mono ?_; rintro e w' ⟨rfl, rfl⟩)
  refine RG.out.mono ?_
  rintro e w1 ⟨A1, c1, G, W, H, rfl, W0, W6, H0, H6, hG, M1, hb1⟩
  clear RG LO
  obtain ⟨O, hWt⟩ := wtr_of G W0 (by omega) H0 (by omega) hG
  have WT := Lib.hid hWt
  have h16 : H ≤ 16 := by omega
  have w16 : W ≤ 16 := by omega
  have AT0 := Lib.hid (fun V (hb : Below w.heap.size w V) => (show Calls Try.prog 45 #[.slice B m d, .int .i64 0, .int .i64 W] V _ from b10At_any B m d l2 0 W V (BY.out V hb) W0 (by omega) (by omega) HM.out))
  have AT1 := Lib.hid (fun V (hb : Below w.heap.size w V) => (show Calls Try.prog 45 #[.slice B m d, .int .i64 1, .int .i64 H] V _ from b10At_any B m d l2 1 H V (BY.out V hb) H0 (by omega) (by omega) HM.out))
  have YL := Lib.hid (fun A c V (hV : MatRd V A (gO G W H)) => lev_g (c := c) hWt h16 w16 hV)
  have YT := Lib.hid (fun A c V (hV : MatRd V A (gO G W H)) => wat_g (c := c) hWt h16 w16 hV)
  have YR := Lib.hid (fun A c V (hV : MatRd V A (gO O W H)) => wat_o (c := c) hWt h16 w16 hV)
  have YS := Lib.hid (fun A c x y V (hV : MatRd V A (gO G W H)) (hx : x < W) (hy : y < H) => spill_g (c := c) hWt h16 w16 hV hx hy)
  have YB := Lib.hid (fun A c x y V (hb : Below w.heap.size w V) (hV : MatRd V A (gO G W H)) (hx : x < W) (hy : y < H) => steps_g (d := d) (c := c) hWt h16 HM.out (BY.out V hb) hV hx hy)
  have YE := Lib.hid (fun A c (x y : Nat) s (px py : Nat) hh V (hV : MatRd V A (gO G W H)) (he : ewV (gO G W H) x y s = some (((px : Int), (py : Int)), hh)) => eow_g (c := c) h16 w16 hV he)
  have YH := Lib.hid (fun A B c d V (h1 : MatRd V A (gO O W H)) (h2 : MatRd V B (gO G W H)) => b10Shape_any A B c d H _ _ V h1 h2 (gO_length _ _ _) (gO_length _ _ _) H0 (by omega) W (fun i hi => gO_w _ _ _ i hi) (fun i hi => gO_w _ _ _ i hi))
  have DB := Lib.hid (fun i (hi : i < W * H) => hWt.ge i hi)
  have SB := Lib.hid (fun k (hk : k ≤ W * H) => sI_bd (O := fun i => O i - G i) (n := W * H) (fun i hi => by have := hWt.ge i hi; omega) k hk)
  have OB := Lib.hid hWt.bd
  have GB := Lib.hid hG
  have ED := Lib.hid hWt.edge
  have WH : W * H ≤ 256 := Nat.le_trans (Nat.mul_le_mul w16 h16) (by decide)
  clear hWt hG WT BY HM
  have B1 := Ext.more hb1 (.cells #[.slice A1 H c1] 31)
  have T5 := Blk.made w1 31 #[.slice A1 H c1]
  replace M1 := M1.ext (Ext.more (Ext.refl _) (.cells #[.slice A1 H c1] 31))
  clear hb1
  go_wp2_with fail
  refine (YL.out _ _ _ M1).mono ?_
  rintro e w2 ⟨A2, c2, rfl, M2, hb⟩
  replace B1 := Ext.more (Ext.then_ B1 hb) (.cells #[.slice A2 H c2] 31)
  replace T5 := (T5.under hb T5.lt).more (.cells #[.slice A2 H c2] 31)
  replace M1 := M1.ext (Ext.more hb (.cells #[.slice A2 H c2] 31))
  replace M2 := M2.ext (Ext.more (Ext.refl _) (.cells #[.slice A2 H c2] 31))
  have T6 := Blk.made w2 31 #[.slice A2 H c2]
  clear hb
  have k5 := T5.cell 0
  have k6 := T6.cell 0
  simp at k5 k6
  go_wp2_with fail
  refine (YT.out _ _ _ M1).mono ?_
  rintro e w3 ⟨rfl, hb⟩
  replace B1 := Ext.then_ B1 hb
  replace T5 := T5.under hb T5.lt
  replace T6 := T6.under hb T6.lt
  replace M1 := M1.ext hb
  replace M2 := M2.ext hb
  clear hb k5 k6
  have k5 := T5.cell 0
  have k6 := T6.cell 0
  simp at k5 k6
  generalize hsw : sI (fun i => O i - G i) (W * H) = tw at *
  have HSW := Lib.hid hsw
  clear hsw
  go_wp2_with fail
  refine (YR.out _ _ _ M2).mono ?_
  rintro e w4 ⟨rfl, hb⟩
  replace B1 := Ext.then_ B1 hb
  replace T5 := T5.under hb T5.lt
  replace T6 := T6.under hb T6.lt
  replace M1 := M1.ext hb
  replace M2 := M2.ext hb
  clear hb k5 k6
  have k5 := T5.cell 0
  have k6 := T6.cell 0
  simp at k5 k6
  obtain ⟨gA, rfl, _, hR1⟩ := gO_rows M1 H0 W0
  obtain ⟨gB, rfl, _, _⟩ := gO_rows M2 H0 W0
  obtain ⟨r0, q0, e0, _, _⟩ := hR1 0 H0
  clear hR1
  have LA : gA < w4.heap.size := by assumption
  have SH := Lib.hid (YH.out _ _ c2 c1 w4 M2 M1)
  have i00 : (0 : Int) < (H : Int) := by omega
  go_wp2_with (go_at_call 47; go_loud (refine SH.out.mono ?_; rintro e w5 ⟨rfl, hb⟩; replace e0 := (hb.cell (p := ⟨gA, 0, none⟩) LA).trans e0; replace B1 := Ext.then_ B1 hb; replace T5 := T5.under hb T5.lt; replace T6 := T6.under hb T6.lt; replace M1 := M1.ext hb; replace M2 := M2.ext hb; clear hb k5 k6; have k5 := T5.cell 0; have k6 := T6.cell 0; simp at k5 k6))
  clear SH YL YT YR YH e0 LA
  obtain ⟨gA', eA, hgA, hR1⟩ := gO_rows M1 H0 W0
  obtain ⟨gB', eB, hgB, hR2⟩ := gO_rows M2 H0 W0
  cases eA
  cases eB
  have R1 := Lib.hid hR1
  have R2 := Lib.hid hR2
  clear hR1 hR2
  have z5 := T5.lt
  have z6 := T6.lt
  go_loopw [14, 15, 16, 17, 18, 19, 20] (fun s i _ _ _ _ _ wr => ∃ y : Nat, y ≤ H ∧ i = .int .i64 y ∧ s = .int .i64 (sI (fun i => O i - G i) (y * W)) ∧ Below w5.heap.size w5 wr) (fun _ i _ _ _ _ _ _ => H - (intOf i).toNat)
  case atStart => exact ⟨0, Nat.zero_le _, rfl, by simp [sI], Ext.refl _⟩
  case round =>
    obtain ⟨y, hy, rfl, rfl, hb⟩ := hrel
    by_cases hlt : y < H
    · obtain ⟨ra, ca, e1, la, ea⟩ := R1.out y hlt
      obtain ⟨rb, cb, e2, lb, eb⟩ := R2.out y hlt
      have EA := Lib.hid ea
      have EB := Lib.hid eb
      clear ea eb
      have i0 : (0 : Int) ≤ (y : Int) := by omega
      have i1 : (y : Int) < (H : Int) := by omega
      have SUCC : Hid ((y + 1) * W = y * W + W) := Nat.succ_mul _ _
      have YW : y * W + W ≤ W * H := by rw [Nat.mul_comm W H, ← Nat.succ_mul]; exact Nat.mul_le_mul_right _ hlt
      have jy : IntKind.i64.wrap ((H : Int) - 1) = (H : Int) - 1 := i64_pred h16 H0
      have jx : IntKind.i64.wrap ((W : Int) - 1) = (W : Int) - 1 := i64_pred w16 W0
      go_wp2_with fail
      go_loopw [14, 16, 17, 18, 19, 20] (fun s i _ _ _ _ wr => ∃ x : Nat, x ≤ W ∧ i = .int .i64 x ∧ s = .int .i64 (sI (fun i => O i - G i) (y * W + x)) ∧ Below w5.heap.size w5 wr) (fun _ i _ _ _ _ _ => W - (intOf i).toNat)
      case atStart => exact ⟨0, Nat.zero_le _, rfl, rfl, hb⟩
      case round =>
        obtain ⟨x, hx, rfl, rfl, hb2⟩ := hrel
        by_cases hxl : x < W
        · have hpl : y * W + x < W * H := by omega
          have d0 := DB.out _ hpl
          have s0 := SB.out _ (Nat.le_of_lt hpl)
          have o0 := OB.out _ hpl
          have g0 := GB.out _ hpl
          have ed := Lib.hid (ED.out _ hpl)
          have f1 := (hb2.cell (p := ⟨w1.heap.size, 0, none⟩) z5).trans k5
          have f2 := (hb2.cell (p := ⟨w2.heap.size, 0, none⟩) z6).trans k6
          have f3 := (hb2.cell (p := ⟨gA, y, none⟩) hgA).trans e1
          have f4 := (hb2.cell (p := ⟨gB, y, none⟩) hgB).trans e2
          have f5 := (hb2.cell (p := ⟨ra, x, none⟩) la).trans (EA.out x hxl)
          have f6 := (hb2.cell (p := ⟨rb, x, none⟩) lb).trans (EB.out x hxl)
          have E6 := Lib.hid (EB.out x hxl)
          have SPi := Lib.hid (fun V (hV : Below w5.heap.size w5 V) => YS.out _ c1 x y V (M1.ext hV) hxl hlt)
          have SN : Hid (sI (fun i => O i - G i) (y * W + (x + 1)) = sI (fun i => O i - G i) (y * W + x) + (O (y * W + x) - G (y * W + x))) := rfl
          generalize hs1 : sI (fun i => O i - G i) (y * W + (x + 1)) = s1 at *
          have HS1 := Lib.hid hs1
          clear hs1
          generalize sI (fun i => O i - G i) (y * W + x) = s2 at *
          obtain ⟨δ, hδ⟩ : ∃ δ, O (y * W + x) - G (y * W + x) = δ := ⟨_, rfl⟩
          have HD := Lib.hid hδ
          rw [hδ] at SN d0 ed
          generalize O (y * W + x) = ov at *
          generalize G (y * W + x) = gv at *
          have jd : IntKind.i64.wrap (ov - gv) = δ := by rw [← hδ]; exact i64_sub o0 g0
          have HD := Lib.hid hδ
          clear hδ
          have j2 : (0 : Int) ≤ (x : Int) := by omega
          have j3 : (x : Int) < (W : Int) := by omega
          have dn : ¬ δ < 0 := by omega
          have on : (ov != ov) = false := by simp
          go_wp2_with fail
          go_quiet (fail)
          have EC := Lib.hid (edge_cases hxl hlt)
          generalize hed : edgeB W H (y * W + x) = eb at *
          have HED := Lib.hid hed
          clear hed f2 f3 f4 f5 f6
          go_upto_region 19 with fail
          go_cut [18] (fun s18 wx => s18 = .bool eb ∧ wx = wr.drewN nq)
          case first =>
            rcases EC.out with ⟨q1, R⟩ | ⟨q1, ⟨q2, R⟩ | ⟨q2, ⟨q3, R⟩ | ⟨q3, ⟨q4, R⟩ | ⟨q4, R⟩⟩⟩⟩
            all_goals
              subst R
              as_aux_lemma =>
                go_wp2_with fail
                go_meet
                exact ⟨rfl, rfl⟩
          case rest =>
            obtain ⟨rfl, rfl⟩ := hcut
            have hb3 := Ext.drawN hb2 nq
            have js : IntKind.i64.wrap (s2 + δ) = s1 := by rw [SN.out]; exact i64_acc s0 hpl WH d0
            cases eb
            case' true =>
              have δ0 := ed.out rfl
              subst δ0
            all_goals
              go_wp2_with fail
              refine (SPi.out _ hb3).mono ?_
              rintro e w7 ⟨rfl, hb⟩
              have hb7 := Ext.then_ hb3 hb
              have f2 := (hb7.cell (p := ⟨w2.heap.size, 0, none⟩) z6).trans k6
              have f4 := (hb7.cell (p := ⟨gB, y, none⟩) hgB).trans e2
              have f6 := (hb7.cell (p := ⟨rb, x, none⟩) lb).trans E6.out
              go_wp2_with fail
              refine ⟨⟨x + 1, by omega, by go_num, ?_, hb7⟩, by simp [intOf]; omega⟩
              rw [HS1.out] <;> rw [SN.out, Int.add_zero]
        · obtain rfl : x = W := by omega
          go_wp2_with fail
          go_roundw
          case rel => exact ⟨y + 1, by omega, by go_num, by rw [SUCC.out], hb2⟩
          case measure => simp [intOf]; omega
    · obtain rfl : y = H := by omega
      have HT : sI (fun i => O i - G i) (y * W) = tw := by rw [Nat.mul_comm, HSW.out]
      rw [HT]
      clear HT HSW DB SB ED
      have tn : (tw != tw) = false := by simp
      have B2 := B1.trans (hb.mono (by have := B1.size; omega))
      go_wp2_with fail
      refine (AT0.out _ B2).mono ?_
      rintro e w' ⟨⟨fx, hfx, rfl⟩, rfl⟩
      go_wp2_with fail
      refine (AT1.out _ B2).mono ?_
      rintro e w' ⟨⟨fy, hfy, rfl⟩, rfl⟩
      have hb6 := Ext.more hb (.cells #[.int .i64 fx, .int .i64 fy] 28)
      have T21 := Blk.made wr 28 #[.int .i64 fx, .int .i64 fy]
      have zr := hb.size
      go_upto_region 25 with fail
      generalize wr.alloc (.cells #[.int .i64 fx, .int .i64 fy] 28) = V5 at *
      replace B2 := B1.trans (hb6.mono (by have := B1.size; omega))
      have x5 := M1.ext hb6
      have kTX := (hb6.cell (p := ⟨w1.heap.size, 0, none⟩) z5).trans k5
      have kTa := T21.cell 0
      have lTa := T21.cell 1
      simp at kTa lTa
      have zTX : w1.heap.size < V5.heap.size := by have := hb6.size; omega
      have zTa := T21.lt
      go_cut [22, 23, 24] (fun s8 s9 s10 wx => ∃ (b8 px py : Nat) (hh : Int), s8 = .pointer (some ⟨b8, 0, none⟩) ∧ s9 = .int .i64 hh ∧ s10 = .bool true ∧ Blk wx b8 28 #[.int .i64 px, .int .i64 py] ∧ px < W ∧ py < y ∧ Hid (edgeB W y (py * W + px) = true → O (fy * W + fx) ≤ hh) ∧ Below V5.heap.size V5 wx)
      case first =>
        have SS := Lib.hid (fun V (hb : Below V5.heap.size V5 V) => (show Below V5.heap.size V5 V ∧ V.cell? ⟨w1.heap.size, 0, none⟩ = some (.slice (some ⟨gA, 0, none⟩) y c1) ∧ V.cell? ⟨wr.heap.size, 0, none⟩ = some (.int .i64 fx) ∧ V.cell? ⟨wr.heap.size, 1, none⟩ = some (.int .i64 fy) from
          ⟨hb, (hb.cell (p := ⟨w1.heap.size, 0, none⟩) zTX).trans kTX, (hb.cell (p := ⟨wr.heap.size, 0, none⟩) zTa).trans kTa, (hb.cell (p := ⟨wr.heap.size, 1, none⟩) zTa).trans lTa⟩))
        have YB5 := Lib.hid (fun V (hb : Below V5.heap.size V5 V) => YB.out _ c1 fx fy V (Ext.then_ B2 hb) (x5.ext hb) hfx hfy)
        have YE5 := Lib.hid (fun V (hb : Below V5.heap.size V5 V) s px py hh he => YE.out _ c1 fx fy s px py hh V (x5.ext hb) he)
        go_region_held3 (fun V => Below V5.heap.size V5 V ∧ V.cell? ⟨w1.heap.size, 0, none⟩ = some (.slice (some ⟨gA, 0, none⟩) y c1) ∧ V.cell? ⟨wr.heap.size, 0, none⟩ = some (.int .i64 fx) ∧ V.cell? ⟨wr.heap.size, 1, none⟩ = some (.int .i64 fy))
          (first
            | exact SS.out _ (Ext.draw (Ext.refl _))
            | exact SS.out _ h67
            | exact SS.out _ h56
            | exact SS.out _ (Ext.more (Ext.draw (Ext.refl _)) _)
            | exact SS.out _ (Ext.draw (Ext.more (Ext.refl _) _))
            | exact SS.out _ (Ext.more h67 _)
            | exact SS.out _ (Ext.more h56 _)
            | exact SS.out _ ((h67.setCell (p := ⟨V5.heap.size, 0, none⟩) (by show V5.heap.size ≤ V5.heap.size; omega) _).setCell (p := ⟨V5.heap.size, 1, none⟩) (by show V5.heap.size ≤ V5.heap.size; omega) _)
            | exact SS.out _ ((h67.setCell (p := ⟨w6a.heap.size, 0, none⟩) (by show V5.heap.size ≤ w6a.heap.size; omega) _).setCell (p := ⟨w6a.heap.size, 1, none⟩) (by show V5.heap.size ≤ w6a.heap.size; omega) _)
            | go_keep)
          (first
            | (go_at_call 46; first
                | (refine (YB5.out V5.drew (Ext.draw (Ext.refl _))).mono ?_; rintro e w6a ⟨s, rfl, ⟨px, py, hh, he, hpx, hpy, hed⟩, hb'⟩; have h56 : Below V5.heap.size V5 w6a := Ext.undraw hb'; have z56 := h56.size)
                | (refine (YB5.out _ (by first | exact Ext.more (Ext.draw (Ext.refl _)) _ | exact Ext.draw (Ext.more (Ext.refl _) _))).mono ?_; rintro e w6a ⟨s, rfl, ⟨px, py, hh, he, hpx, hpy, hed⟩, hb'⟩; have h56 : Below V5.heap.size V5 w6a := (by first | exact Ext.undraw (Ext.then_ (Ext.more (Ext.refl _) _) hb') | exact Ext.then_ (Ext.draw (Ext.more (Ext.refl V5) _)) hb'); have T12 : Blk w6a V5.heap.size 28 #[.int .i64 0, .int .i64 0] := (by first | exact (Blk.made V5.drew _ _).under hb' (by simp) | exact Blk.under (w := (V5.alloc _).drew) (Blk.made V5 _ _) hb' (by simp)); have b0 := T12.cell 0; have b1 := T12.cell 1; have f0 := T12.free 0; have f1 := T12.free 1; simp at b0 b1; have z56 := h56.size))
            | (go_at_call 19; first
                | (refine (YE5.out w6a h56 s px py hh he).mono ?_; rintro e w7 ⟨rfl, hb'⟩; have h67 : Below V5.heap.size V5 w7 := Ext.then_ h56 hb'; try (replace T12 := T12.under hb' T12.lt; clear b0 b1 f0 f1; have b0 := T12.cell 0; have b1 := T12.cell 1; have f0 := T12.free 0; have f1 := T12.free 1; simp at b0 b1))
                | (refine (YE5.out _ (Ext.more h56 _) s px py hh he).mono ?_; rintro e w7 ⟨rfl, hb'⟩; have h67 : Below V5.heap.size V5 w7 := Ext.then_ (Ext.more h56 _) hb'; have T12 : Blk w7 w6a.heap.size 28 #[.int .i64 0, .int .i64 0] := (Blk.made w6a _ _).under hb' (by simp); have b0 := T12.cell 0; have b1 := T12.cell 1; have f0 := T12.free 0; have f1 := T12.free 1; simp at b0 b1)))
        all_goals
          have h14 : Below V5.heap.size V5 w7 := h67
          go_wp2_with fail
          go_meet
          first
            | exact ⟨_, px, py, hh, rfl, rfl, rfl, Blk.made w7 _ _, hpx, hpy, hed, Ext.more h14 _⟩
            | (have hX := (h14.setCell (p := ⟨V5.heap.size, 0, none⟩) (by show V5.heap.size ≤ V5.heap.size; omega) (.int .i64 px)).setCell (p := ⟨V5.heap.size, 1, none⟩) (by show V5.heap.size ≤ V5.heap.size; omega) (.int .i64 py)
               have hT := (T12.store 0 (.int .i64 px)).store 1 (.int .i64 py)
               exact ⟨_, px, py, hh, rfl, rfl, rfl, by simpa using hT, hpx, hpy, hed, hX⟩)
            | (have hX := (h14.setCell (p := ⟨w6a.heap.size, 0, none⟩) (by show V5.heap.size ≤ w6a.heap.size; omega) (.int .i64 px)).setCell (p := ⟨w6a.heap.size, 1, none⟩) (by show V5.heap.size ≤ w6a.heap.size; omega) (.int .i64 py)
               have hT := (T12.store 0 (.int .i64 px)).store 1 (.int .i64 py)
               exact ⟨_, px, py, hh, rfl, rfl, rfl, by simpa using hT, hpx, hpy, hed, hX⟩)
      case rest =>
        obtain ⟨b22, px, py, hh, rfl, rfl, rfl, T12, hpx, hpy, hed, hb8⟩ := hcut
        obtain ⟨w8, rfl⟩ : ∃ w8 : World, w8 = wc := ⟨_, rfl⟩
        clear kTX kTa lTa
        have k22 := T12.cell 0
        have l22 := T12.cell 1
        simp at k22 l22
        have EC := Lib.hid (edge_cases hpx hpy)
        generalize edgeB W y (py * W + px) = eb at *
        have jy : IntKind.i64.wrap ((y : Int) - 1) = (y : Int) - 1 := i64_pred h16 H0
        have jx : IntKind.i64.wrap ((W : Int) - 1) = (W : Int) - 1 := i64_pred w16 W0
        have hb9 := hb6.trans (hb8.mono (by have := hb6.size; omega))
        obtain ⟨rb, cb, e2, lb, eb2⟩ := R2.out fy hfy
        have E6 := eb2 fx hfx
        have f2 := (hb9.cell (p := ⟨w2.heap.size, 0, none⟩) z6).trans k6
        have f4 := (hb9.cell (p := ⟨gB, fy, none⟩) hgB).trans e2
        have f6 := (hb9.cell (p := ⟨rb, fx, none⟩) lb).trans E6
        have f7 := (hb8.cell (p := ⟨wr.heap.size, 0, none⟩) zTa).trans (by have := T21.cell 0; simp at this; exact this)
        have f8 := (hb8.cell (p := ⟨wr.heap.size, 1, none⟩) zTa).trans (by have := T21.cell 1; simp at this; exact this)
        have i2 : (0 : Int) ≤ (fx : Int) := by omega
        have i3 : (fx : Int) < (W : Int) := by omega
        have i4 : (0 : Int) ≤ (fy : Int) := by omega
        have i5 : (fy : Int) < (y : Int) := by omega
        have BF := Lib.hid (Ext.then_ B2 hb8)
        clear eb2 e2 E6 k5 k6 YB YE YS AT0 AT1 hb9
        generalize O (fy * W + fx) = ov at *
        go_upto_region 28 with fail
        go_cut [25] (fun s25 wx => s25 = .bool eb ∧ wx = w8)
        case first =>
          rcases EC.out with ⟨q1, R⟩ | ⟨q1, ⟨q2, R⟩ | ⟨q2, ⟨q3, R⟩ | ⟨q3, ⟨q4, R⟩ | ⟨q4, R⟩⟩⟩⟩
          all_goals
            subst R
            as_aux_lemma =>
              go_wp2_with fail
              go_meet
              exact ⟨rfl, rfl⟩
        case rest =>
          obtain ⟨rfl, rfl⟩ := hcut
          cases eb
          · go_wp2_with fail
            go_quiet (fail)
            go_wp2_with fail
            go_ret
            exact ⟨rfl, Ext.drawN BF.out _⟩
          · have hle := hed.out rfl
            go_wp2_with fail
            go_quiet (fail)
            go_wp2_with fail
            go_ret
            exact ⟨ret_bool (by simp), Ext.drawN BF.out _⟩
end Go.Proofs.Ytajepoopicoodaa
