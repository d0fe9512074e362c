/- The law FnPasses, walked. -/
import Derived.Test.YtajepoopicoodaaR10
import Derived.Test.YtajepoopicoodaaPasP
import Derived.Test.YtajepoopicoodaaB10S
import Derived.Test.YtajepoopicoodaaWayI
namespace Go.Proofs.Ytajepoopicoodaa
open Go.RowKit

section
variable {G : Nat → Int} {P : Nat → Nat → Int} {W H : Nat} (h : Pss G W H P) (hH : H ≤ 16) (hW : W ≤ 16)
include h hH hW
theorem pass_g {A : Option Addr} {c x y u v : Nat} {V : World} (hV : MatRd V A (gO G W H)) (hx : x < W) (hy : y < H) (hu : u < W) (hv : v < H) :
    Calls Try.prog 23 #[.agg #[.slice A H c], .agg #[.int .i64 x, .int .i64 y], .agg #[.int .i64 u, .int .i64 v]] V fun e w' => e = .returned (.tuple #[.int .i64 (P (y * W + x) (v * W + u)), .bool true]) ∧ Below V.heap.size V w' := by
  have k := passBetween_any A c (gO G W H) x y u v V hV (by rw [gO_length]; omega) (fun i hi => by rw [gO_w]; omega)
  rwa [gO_length, (h.val x y u v hx hy hu hv).1, (h.val x y u v hx hy hu hv).2] at k
theorem way_g {A : Option Addr} {c x y u v : Nat} {V : World} (hV : MatRd V A (gO G W H)) (hx : x < W) (hy : y < H) (hu : u < W) (hv : v < H) :
    Calls Try.prog 35 #[.agg #[.slice A H c], .agg #[.int .i64 x, .int .i64 y], .agg #[.int .i64 u, .int .i64 v]] V fun e w' => e = .returned (.tuple #[.string (wayV (gO G W H) x y u v), .bool true]) ∧ Below V.heap.size V w' := by
  have k := wayBetween_any A c (gO G W H) x y u v V hV (by rw [gO_length]; omega) (fun i hi => by rw [gO_w]; omega)
  rwa [gO_length, (h.val x y u v hx hy hu hv).2] at k
omit hW hH in
theorem stepsP_g (h0 : 0 < H) (hok : greyOk (gO G W H) = true) {B : Option Addr} {m d : Nat} {l : List Int} (hm : m ≤ maxLen) {A : Option Addr} {c x y : Nat} {V : World} (hl : BytesAt V B m l) (hV : MatRd V A (gO G W H)) (hx : x < W) (hy : y < H) :
    Calls Try.prog 46 #[.slice B m d, .agg #[.slice A H c], .agg #[.int .i64 x, .int .i64 y]] V fun e w' => ∃ s : ByteArray, e = .returned (.string s) ∧ (∃ (px py : Nat) (hh : Int), ewV (gO G W H) x y s = some (((px : Int), (py : Int)), hh) ∧ px < W ∧ py < H ∧ P (y * W + x) (py * W + px) ≤ hh ∧ s.size ≤ 1000) ∧ Below V.heap.size V w' := by
  have k := b10Steps_any B m d l A c (gO G W H) W H x y V hl hm hV hok (tabW_gO G h0) (gO_length _ _ _) hx hy
  rw [gO_length] at k
  refine k.mono (fun e w' q => ?_)
  obtain ⟨s, rfl, hs, ⟨⟨p1, p2⟩, hh, hp⟩, hb⟩ := q
  have he : ewV (gO G W H) x y s = some ((p1, p2), hh) := by
    rw [ewV, ewOk, inR, hok, tabW_gO G h0, gO_length, if_pos (by rw [show inG W H ((x : Int), (y : Int)) = true by rw [inG_iff]; simp; omega]; simp; omega)]
    exact hp
  obtain ⟨i1, i2⟩ := h.own s x y _ _ hx hy he
  obtain ⟨px, py, rfl, rfl, b1, b2, e1⟩ := inG_nat i1
  rw [e1] at i2
  exact ⟨s, rfl, ⟨px, py, hh, he, b1, b2, i2, by omega⟩, hb⟩
omit h in
theorem eowP_g {A : Option Addr} {c : Nat} {x y : Nat} {s : ByteArray} {px py : Nat} {hh : Int} {V : World} (hV : MatRd V A (gO G W H)) (he : ewV (gO G W H) x y s = some (((px : Int), (py : Int)), hh)) :
    Calls Try.prog 19 #[.agg #[.slice A H c], .agg #[.int .i64 x, .int .i64 y], .string s] V fun e w' => e = .returned (.tuple #[.agg #[.int .i64 px, .int .i64 py], .int .i64 hh, .bool true]) ∧ Below V.heap.size V w' := by
  have k := endOfWay_any A c (gO G W H) x y s V hV (by rw [gO_length]; omega) (fun i hi => by rw [gO_w]; omega)
  rwa [gO_length, he] at k
end

theorem gO_rows {V : World} {A : Option Addr} {O : Nat → Int} {W H : Nat} (h : MatRd V A (gO O W H)) (hH : 0 < H) (hW : 0 < W) :
    ∃ g, A = some ⟨g, 0, none⟩ ∧ g < V.heap.size ∧ ∀ y, y < H → ∃ r cr, V.cell? ⟨g, y, none⟩ = some (.slice (some ⟨r, 0, none⟩) W cr) ∧ r < V.heap.size ∧ ∀ x, x < W → V.cell? ⟨r, x, none⟩ = some (.int .i64 (O (y * W + x))) := by
  obtain ⟨g, e, hg, hc⟩ := h (by rw [gO_length]; exact hH)
  refine ⟨g, e, hg, fun y hy => ?_⟩
  have hy' : y < (gO O W H).length := by rw [gO_length]; exact hy
  obtain ⟨Ai, ci, q1, q2⟩ := hc y hy'
  rw [gO_w] at q1
  obtain ⟨r, rfl, hr, hcr⟩ := q2 (by simp [ints, gO_w]; exact hW)
  refine ⟨r, ci, q1, hr, fun x hx => ?_⟩
  have hx' : x < (gO O W H)[y].length := by rw [gO_w]; exact hx
  have := hcr x (by simpa [ints] using hx')
  rw [this]
  simp [ints, gO_get]


set_option maxRecDepth 100000 in
set_option maxHeartbeats 4000000 in
theorem walkPasses (w : World) (A : Option Addr) (n c : Nat) (l : List Int) (hl : BytesAt w A n l) (hn : n ≤ maxLen) (B : Option Addr) (m d : Nat) (l2 : List Int) (hl2 : BytesAt w B m l2) (hm : m ≤ maxLen) :
    Calls Try.prog 12 #[.slice A n c, .slice B m d] w fun e w' => e = .returned (.bool true) ∧ Below w.heap.size w w' := by
  have LO := Lib.hid (b10Long_any A B n c m d hn hm w)
  cases hlong : (decide (1048576 < n) || decide (1048576 < m))
  case true =>
    rw [hlong] at LO
    clear hl hl2 hn hm hlong
    go_enter Try.func12, Try.ntmps12
    go_wp2_with (go_at_call 43; refine LO.out.mono ?_; rintro e w' ⟨rfl, rfl⟩)
    go_ret
    exact ⟨rfl, Ext.refl _⟩
  rw [hlong] at LO
  have RG := Lib.hid (b10Grey_any A n c l w hl hn)
  clear hl hn hlong
  have HM := Lib.hid hm
  clear hm
  have BY := Lib.hid (fun V (hb : Below w.heap.size w V) => hl2.ext hb)
  clear hl2
  go_enter Try.func12, Try.ntmps12
  go_wp2_with (go_at_call 43; refine LO.out.mono ?_; rintro e w' ⟨rfl, rfl⟩)
  refine RG.out.mono ?_
  rintro e w1 ⟨A1, c1, G, W, H, rfl, W0, W6, H0, H6, hG, M1, hb1⟩
  clear RG LO
  obtain ⟨P, hP⟩ := pss_of G W0 (by omega) H0 (by omega) hG
  have h16 : H ≤ 16 := by omega
  have w16 : W ≤ 16 := by omega
  have hok : greyOk (gO G W H) = true := gO_ok W0 w16 H0 h16 hG
  have AT := Lib.hid (fun (k : Nat) (hk : k ≤ 10) (N : Nat) (hN : 0 < N) (hN2 : N ≤ 16) V (hb : Below w.heap.size w V) => (show Calls Try.prog 45 #[.slice B m d, .int .i64 k, .int .i64 N] V _ from b10At_any B m d l2 k N V (BY.out V hb) hN (by omega) (by omega) HM.out))
  have YP := Lib.hid (fun A c (x y u v : Nat) V (hV : MatRd V A (gO G W H)) hx hy hu hv => pass_g (c := c) hP h16 w16 (x := x) (y := y) (u := u) (v := v) hV hx hy hu hv)
  have YW := Lib.hid (fun A c (x y u v : Nat) V (hV : MatRd V A (gO G W H)) hx hy hu hv => way_g (c := c) hP h16 w16 (x := x) (y := y) (u := u) (v := v) hV hx hy hu hv)
  have YB := Lib.hid (fun A c x y V (hb : Below w.heap.size w V) (hV : MatRd V A (gO G W H)) (hx : x < W) (hy : y < H) => stepsP_g (d := d) (c := c) hP H0 hok HM.out (BY.out V hb) hV hx hy)
  have YE := Lib.hid (fun A c (x y : Nat) s (px py : Nat) hh V (hV : MatRd V A (gO G W H)) (he : ewV (gO G W H) x y s = some (((px : Int), (py : Int)), hh)) => eowP_g (c := c) h16 w16 hV he)
  have SY := Lib.hid hP.sym
  have TR := Lib.hid hP.tri
  have WY := Lib.hid (fun a1 a2 b1 b2 h1 h2 h3 h4 => hP.way a1 a2 b1 b2 h1 h2 h3 h4)
  have BE := Lib.hid (fun s a1 a2 b1 b2 h h1 h2 h3 h4 e1 e2 => hP.best s a1 a2 b1 b2 h h1 h2 h3 h4 e1 e2)
  clear hP hG BY HM hok
  have B1 := Ext.more hb1 (.cells #[.slice A1 H c1] 31)
  have T5 := Blk.made w1 31 #[.slice A1 H c1]
  replace M1 := M1.ext (Ext.more (Ext.refl _) (.cells #[.slice A1 H c1] 31))
  obtain ⟨gA, rfl, _, hR1⟩ := gO_rows M1 H0 W0
  obtain ⟨r0, q0, e0, _, _⟩ := hR1 0 H0
  have i00 : (0 : Int) < (H : Int) := by omega
  have k5 := T5.cell 0
  simp at k5
  clear hb1 hR1
  go_wp2_with fail
  refine (AT.out 0 (by omega) W W0 w16 _ B1).mono ?_
  rintro e w' ⟨⟨fx, hfx, rfl⟩, rfl⟩
  go_wp2_with fail
  refine (AT.out 1 (by omega) H H0 h16 _ B1).mono ?_
  rintro e w' ⟨⟨fy, hfy, rfl⟩, rfl⟩
  have X8 := Ext.more (Ext.refl (w1.alloc (.cells #[.slice (some ⟨gA, 0, none⟩) H c1] 31))) (.cells #[.int .i64 fx, .int .i64 fy] 28)
  have T8 := Blk.made (w1.alloc (.cells #[.slice (some ⟨gA, 0, none⟩) H c1] 31)) 28 #[.int .i64 fx, .int .i64 fy]
  have z8 : (w1.alloc (.cells #[.slice (some ⟨gA, 0, none⟩) H c1] 31)).heap.size = w1.heap.size + 1 := by simp
  rw [z8] at T8
  replace B1 := Ext.then_ B1 X8
  replace T5 := T5.under X8 T5.lt
  replace M1 := M1.ext X8
  clear X8 e0 k5
  go_wp2_with fail
  refine (AT.out 2 (by omega) W W0 w16 _ B1).mono ?_
  rintro e w' ⟨⟨cx, hcx, rfl⟩, rfl⟩
  go_wp2_with fail
  refine (AT.out 3 (by omega) H H0 h16 _ B1).mono ?_
  rintro e w' ⟨⟨cy, hcy, rfl⟩, rfl⟩
  have T9 := Blk.made ((w1.alloc (.cells #[.slice (some ⟨gA, 0, none⟩) H c1] 31)).alloc (.cells #[.int .i64 fx, .int .i64 fy] 28)) 28 #[.int .i64 cx, .int .i64 cy]
  have z9 : ((w1.alloc (.cells #[.slice (some ⟨gA, 0, none⟩) H c1] 31)).alloc (.cells #[.int .i64 fx, .int .i64 fy] 28)).heap.size = w1.heap.size + 1 + 1 := by simp
  rw [z9] at T9
  have X9 := Ext.more (Ext.refl ((w1.alloc (.cells #[.slice (some ⟨gA, 0, none⟩) H c1] 31)).alloc (.cells #[.int .i64 fx, .int .i64 fy] 28))) (.cells #[.int .i64 cx, .int .i64 cy] 28)
  replace B1 := Ext.then_ B1 X9
  replace T5 := T5.under X9 T5.lt
  replace T8 := T8.under X9 T8.lt
  replace M1 := M1.ext X9
  clear X9 z8 z9
  have k5 := T5.cell 0
  have k8 := T8.cell 0
  have l8 := T8.cell 1
  simp at k5 k8 l8
  go_wp2_with fail
  generalize ((w1.alloc (.cells #[.slice (some ⟨gA, 0, none⟩) H c1] 31)).alloc (.cells #[.int .i64 fx, .int .i64 fy] 28)).alloc (.cells #[.int .i64 cx, .int .i64 cy] 28) = w2 at *
  refine (YB.out _ c1 fx fy _ B1 M1 hfx hfy).mono ?_
  rintro e w3 ⟨s, rfl, ⟨px, py, hh, he, hpx, hpy, hle, hsz⟩, hb⟩
  replace B1 := Ext.then_ B1 hb
  replace T5 := T5.under hb T5.lt
  replace T8 := T8.under hb T8.lt
  replace T9 := T9.under hb T9.lt
  replace M1 := M1.ext hb
  clear hb k5 k8 l8
  have k5 := T5.cell 0
  have k8 := T8.cell 0
  have l8 := T8.cell 1
  simp at k5 k8 l8
  have HE := Lib.hid he
  clear he
  go_wp2_with fail
  refine (YE.out _ c1 fx fy s px py hh _ M1 HE.out).mono ?_
  rintro e w4 ⟨rfl, hb⟩
  have T11 := Blk.made w4 28 #[.int .i64 px, .int .i64 py]
  replace hb := Ext.more hb (.cells #[.int .i64 px, .int .i64 py] 28)
  replace B1 := Ext.then_ B1 hb
  replace T5 := T5.under hb T5.lt
  replace T8 := T8.under hb T8.lt
  replace T9 := T9.under hb T9.lt
  replace M1 := M1.ext hb
  clear hb k5 k8 l8
  have k5 := T5.cell 0
  have k8 := T8.cell 0
  have l8 := T8.cell 1
  have k11 := T11.cell 0
  have l11 := T11.cell 1
  simp at k5 k8 l8 k11 l11
  go_wp2_with fail
  generalize hw5 : w4.alloc (.cells #[.int .i64 px, .int .i64 py] 28) = w5 at *
  clear hw5
  refine (YP.out _ c1 fx fy px py _ M1 hfx hfy hpx hpy).mono ?_
  rintro e w6 ⟨rfl, hb⟩
  have qaL : fy * W + fx < W * H := pl_lt hfx hfy
  have qbL : py * W + px < W * H := pl_lt hpx hpy
  have qcL : cy * W + cx < W * H := pl_lt hcx hcy
  have E1 := Lib.hid (SY.out _ _ qaL qbL)
  have E2 := TR.out _ _ _ qaL qcL qbL
  obtain ⟨w1', WE⟩ := WY.out fx fy px py hfx hfy hpx hpy
  have HWE := Lib.hid WE
  have HBE := Lib.hid (fun e2 => BE.out s fx fy px py hh hfx hfy hpx hpy HE.out e2)
  clear k5 k8 l8 k11 l11 WE SY TR WY BE qaL qbL qcL
  replace B1 := Ext.then_ B1 hb
  replace T5 := T5.under hb T5.lt
  replace T8 := T8.under hb T8.lt
  replace T9 := T9.under hb T9.lt
  replace T11 := T11.under hb T11.lt
  replace M1 := M1.ext hb
  clear hb
  have k5 := T5.cell 0
  have k8 := T8.cell 0
  have l8 := T8.cell 1
  have k9 := T9.cell 0
  have l9 := T9.cell 1
  have k11 := T11.cell 0
  have l11 := T11.cell 1
  simp at k5 k8 l8 k9 l9 k11 l11
  go_wp2_with fail
  refine (YP.out _ c1 px py fx fy _ M1 hpx hpy hfx hfy).mono ?_
  rintro e w7 ⟨rfl, hb⟩
  rw [← E1.out]
  clear k5 k8 l8 k9 l9 k11 l11
  replace B1 := Ext.then_ B1 hb
  replace T5 := T5.under hb T5.lt
  replace T8 := T8.under hb T8.lt
  replace T9 := T9.under hb T9.lt
  replace T11 := T11.under hb T11.lt
  replace M1 := M1.ext hb
  clear hb
  have k5 := T5.cell 0
  have k8 := T8.cell 0
  have l8 := T8.cell 1
  have k9 := T9.cell 0
  have l9 := T9.cell 1
  have k11 := T11.cell 0
  have l11 := T11.cell 1
  simp at k5 k8 l8 k9 l9 k11 l11
  go_wp2_with fail
  refine (YW.out _ c1 fx fy px py _ M1 hfx hfy hpx hpy).mono ?_
  rintro e w8 ⟨rfl, hb⟩
  clear k5 k8 l8 k9 l9 k11 l11
  replace B1 := Ext.then_ B1 hb
  replace T5 := T5.under hb T5.lt
  replace T8 := T8.under hb T8.lt
  replace T9 := T9.under hb T9.lt
  replace T11 := T11.under hb T11.lt
  replace M1 := M1.ext hb
  clear hb
  have k5 := T5.cell 0
  have k8 := T8.cell 0
  have l8 := T8.cell 1
  have k9 := T9.cell 0
  have l9 := T9.cell 1
  have k11 := T11.cell 0
  have l11 := T11.cell 1
  simp at k5 k8 l8 k9 l9 k11 l11
  go_wp2_with fail
  refine (YE.out _ c1 fx fy _ px py _ _ M1 HWE.out).mono ?_
  rintro e w9 ⟨rfl, hb⟩
  have T20 := Blk.made w9 28 #[.int .i64 px, .int .i64 py]
  replace hb := Ext.more hb (.cells #[.int .i64 px, .int .i64 py] 28)
  clear k5 k8 l8 k9 l9 k11 l11
  replace B1 := Ext.then_ B1 hb
  replace T5 := T5.under hb T5.lt
  replace T8 := T8.under hb T8.lt
  replace T9 := T9.under hb T9.lt
  replace T11 := T11.under hb T11.lt
  replace M1 := M1.ext hb
  clear hb
  have k5 := T5.cell 0
  have k8 := T8.cell 0
  have l8 := T8.cell 1
  have k9 := T9.cell 0
  have l9 := T9.cell 1
  have k11 := T11.cell 0
  have l11 := T11.cell 1
  simp at k5 k8 l8 k9 l9 k11 l11
  go_wp2_with fail
  generalize hw10 : w9.alloc (.cells #[.int .i64 px, .int .i64 py] 28) = w10 at *
  clear hw10
  refine (YP.out _ c1 fx fy cx cy _ M1 hfx hfy hcx hcy).mono ?_
  rintro e w11 ⟨rfl, hb⟩
  replace T20 := T20.under hb T20.lt
  clear k5 k8 l8 k9 l9 k11 l11
  replace B1 := Ext.then_ B1 hb
  replace T5 := T5.under hb T5.lt
  replace T8 := T8.under hb T8.lt
  replace T9 := T9.under hb T9.lt
  replace T11 := T11.under hb T11.lt
  replace M1 := M1.ext hb
  clear hb
  have k5 := T5.cell 0
  have k8 := T8.cell 0
  have l8 := T8.cell 1
  have k9 := T9.cell 0
  have l9 := T9.cell 1
  have k11 := T11.cell 0
  have l11 := T11.cell 1
  simp at k5 k8 l8 k9 l9 k11 l11
  go_wp2_with fail
  refine (YP.out _ c1 cx cy px py _ M1 hcx hcy hpx hpy).mono ?_
  rintro e w12 ⟨rfl, hb⟩
  replace T20 := T20.under hb T20.lt
  clear k5 k8 l8 k9 l9 k11 l11
  replace B1 := Ext.then_ B1 hb
  replace T5 := T5.under hb T5.lt
  replace T8 := T8.under hb T8.lt
  replace T9 := T9.under hb T9.lt
  replace T11 := T11.under hb T11.lt
  replace M1 := M1.ext hb
  clear hb
  have k5 := T5.cell 0
  have k8 := T8.cell 0
  have l8 := T8.cell 1
  have k9 := T9.cell 0
  have l9 := T9.cell 1
  have k11 := T11.cell 0
  have l11 := T11.cell 1
  simp at k5 k8 l8 k9 l9 k11 l11
  have k20 := T20.cell 0
  have l20 := T20.cell 1
  simp at k20 l20
  generalize wayV (gO G W H) fx fy px py = wv at *
  generalize P (fy * W + fx) (py * W + px) = pv at *
  generalize P (fy * W + fx) (cy * W + cx) = pa at *
  generalize P (cy * W + cx) (py * W + px) = pb at *
  clear E1
  clear YP YW YB YE AT HWE HE T20 T5 T8 T9 T11 M1 k5 k8 l8 k9 l9 w1'
  by_cases hgt : pv < hh
  · clear HBE
    rcases Int.lt_or_le pa pb with hm | hm
    all_goals
      go_wp2_with fail
      all_goals
        go_ret
        exact ⟨rfl, B1⟩
  obtain rfl : pv = hh := by omega
  have HB := HBE.out (Int.le_refl _)
  rcases HB with hz | ⟨hz, ho⟩
  · clear HBE
    rcases Int.lt_or_le pa pb with hm | hm
    all_goals
      go_wp2_with fail
      all_goals
        go_ret
        exact ⟨rfl, B1⟩
  · have hor : (Op.bytesLess wv.toList s.toList || wv.toList == s.toList) = true := by
      rcases ho with h | h
      · rw [h]; rfl
      · rw [h]; simp
    clear HBE ho
    obtain ⟨z1, hz1⟩ : ∃ z, wv.size = z := ⟨_, rfl⟩
    have z2 : s.size = z1 := by rw [← hz, hz1]
    clear hz
    rcases Int.lt_or_le pa pb with hm | hm
    all_goals
      go_wp2_with fail
      all_goals
        go_ret
        exact ⟨rfl, B1⟩
end Go.Proofs.Ytajepoopicoodaa
