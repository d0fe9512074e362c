/- How much water a grey picture holds: on both sides. -/
import Derived.Test.YtajepoopicoodaaPbt
import Derived.Test.YtajepoopicoodaaGSum
namespace Go.Proofs.Ytajepoopicoodaa
open Go.RowKit

/-- The sum of the first k. -/
def sI (O : Nat → Int) : Nat → Int
  | 0 => 0
  | k + 1 => sI O k + O k
theorem sI_congr {O P : Nat → Int} : ∀ k, (∀ i, i < k → O i = P i) → sI O k = sI P k := by
  intro k
  induction k with
  | zero => intro _; rfl
  | succ k ih => intro h; rw [sI, sI, ih (fun i hi => h i (by omega)), h k (by omega)]
theorem sI_sub (O P : Nat → Int) : ∀ k, sI (fun i => O i - P i) k = sI O k - sI P k := by
  intro k
  induction k with
  | zero => rfl
  | succ k ih => rw [sI, sI, sI, ih]; omega
theorem sI_bd {O : Nat → Int} {n : Nat} (h : ∀ i, i < n → -100 ≤ O i ∧ O i ≤ 100) : ∀ k, k ≤ n → -100 * (k : Int) ≤ sI O k ∧ sI O k ≤ 100 * k := by
  intro k
  induction k with
  | zero => intro _; simp [sI]
  | succ k ih => intro hk; have := ih (by omega); have := h k (by omega); rw [sI]; omega
theorem rsum_sI {O : Nat → Int} {r : List Int} {W b : Nat} (hl : r.length = W) (hg : ∀ x (h : x < r.length), r[x] = O (b + x)) : ∀ j, j ≤ W → sI O (b + j) = sI O b + rsum r j := by
  intro j
  induction j with
  | zero => intro _; simp [rsum]
  | succ j ih => intro h; rw [rsum_succ (by omega), ← Nat.add_assoc, sI, ih (by omega), hg j (by omega)]; omega
theorem gsum_sI {O : Nat → Int} {rows : List (List Int)} {W : Nat} (hr : ∀ y (h : y < rows.length), rows[y].length = W) (hg : ∀ y (hy : y < rows.length) x (h : x < rows[y].length), rows[y][x] = O (y * W + x)) : ∀ k, k ≤ rows.length → gsum rows k = sI O (k * W) := by
  intro k
  induction k with
  | zero => intro _; simp [gsum, sI]
  | succ k ih =>
    intro h
    have := rsum_sI (b := k * W) (hr k (by omega)) (hg k (by omega)) W (Nat.le_refl _)
    rw [gsum_succ (by omega), ih (by omega), Nat.succ_mul, this, ← rsum_all, hr k (by omega)]
noncomputable def waterV (rows : List (List Int)) : Int := if greyOk rows then sI (spillF rows) (tabW rows * rows.length) - sI (gF rows (tabW rows)) (tabW rows * rows.length) else 0
theorem water_of {rows : List (List Int)} {W H n : Nat} (g : GreyN rows W H n) {O : Nat → Int} (h : IsPass W n (gF rows W) (fun i => edgeB W H i = true) O) : waterV rows = sI O n - sI (gF rows W) n := by
  rw [waterV, if_pos g.ok, g.w, g.h, ← g.n]
  congr 1
  apply sI_congr
  intro i hi
  rw [spillF, g.w, g.h, ← g.n]
  exact passL_get h hi
theorem GreyN.num {rows : List (List Int)} {W H n : Nat} (g : GreyN rows W H n) (i : Nat) (hi : i < n) : 0 ≤ gF rows W i ∧ gF rows W i ≤ 99 := gF_bd g.ok g.w i (by rw [g.h, ← g.n]; exact hi)

set_option maxRecDepth 100000 in
set_option maxHeartbeats 2000000 in
theorem waterOf_any (A : Option Addr) (c : Nat) (rows : List (List Int)) (w : World) (h : MatRd w A rows) (hn : rows.length ≤ 1000000000) (hr : ∀ i (h : i < rows.length), rows[i].length ≤ 1000000000) :
    Calls Try.prog 33 #[.agg #[.slice A rows.length c]] w fun e w' => e = .returned (.tuple #[.int .i64 (waterV rows), .bool (greyOk rows)]) ∧ Below w.heap.size w w' := by
  have B1 : Below w.heap.size w (w.alloc (.cells #[.slice A rows.length c] 31)) := Ext.more (Ext.refl _) _
  have G1 := grey_box (c := c) h
  have VG := Lib.hid (fun V (hV : Below w.heap.size w V) => validGrey_any A c rows V (h.ext hV) hn hr)
  have GX := Lib.hid (fun V (hb : Below (w.alloc (.cells #[.slice A rows.length c] 31)).heap.size (w.alloc (.cells #[.slice A rows.length c] 31)) V) => G1.ext hb)
  have c0 := G1.cell
  cases hg : greyOk rows
  · have F2 : Hid (waterV rows = 0) := by rw [Hid, waterV, hg]; rfl
    rw [hg] at VG
    rw [F2.out]
    clear hg hn hr h G1
    generalize rows.length = H at *
    go_enter Try.func33, Try.ntmps33
    go_wp2_with fail
    refine (VG.out _ B1).mono ?_
    rintro e w2 ⟨rfl, hb⟩
    go_wp2_with fail
    go_ret2
    exact ⟨rfl, Ext.then_ B1 hb⟩
  rw [hg] at VG
  obtain ⟨s1, s2, s3, s4⟩ := tab_sizes hg
  obtain ⟨W, hW⟩ : ∃ W, tabW rows = W := ⟨_, rfl⟩
  obtain ⟨H, hH⟩ : ∃ H, rows.length = H := ⟨_, rfl⟩
  have GN : GreyN rows W H (W * H) := ⟨hg, hW, hH, rfl⟩
  have HE := Lib.hid (fun V (hV : GreyAt V w.heap.size A c rows) => spills_any w.heap.size A c rows W H V hV hg hW hH)
  have HS := Lib.hid (fun V (hV : GreyAt V w.heap.size A c rows) => greys_any w.heap.size A c rows V hV s2 (fun i hi => by rw [GN.row i hi]; omega) (fun y hy x hx => by have := tab_num hg y x hy hx; omega))
  have SG : Hid (gsum rows H = sI (gF rows W) (W * H)) := by
    have := gsum_sI (O := gF rows W) GN.row (fun y hy x hx => (gF_at (by rw [← GN.row y hy]; exact hx) hy hx).symm) rows.length (Nat.le_refl _)
    rw [hH] at this
    rw [Hid, this, Nat.mul_comm]
  have HO := Lib.hid (fun p A c O V (hV : GreyAt V p A c (gO O W H)) (hs : SoundP W (W * H) (gF rows W) (fun i => edgeB W H i = true) O) => greys_any p A c (gO O W H) V hV (by rw [gO_length]; omega) (fun i hi => by rw [gO_w]; omega) (fun y hy x hx => by
    rw [gO_get]
    rw [gO_length] at hy
    rw [gO_w] at hx
    have := hs (y * W + x) (pl_lt hx hy)
    omega))
  have SO : Hid (∀ O, gsum (gO O W H) H = sI O (W * H)) := by
    intro O
    have := gsum_sI (O := O) (rows := gO O W H) (W := W) (fun y hy => gO_w O W H y hy) (fun y hy x hx => gO_get O W H y x hy hx) H (by rw [gO_length]; exact Nat.le_refl _)
    rw [this, Nat.mul_comm]
  have WO := Lib.hid (fun O (h : IsPass W (W * H) (gF rows W) (fun i => edgeB W H i = true) O) => water_of GN h)
  have OB := Lib.hid (fun O (h : SoundP W (W * H) (gF rows W) (fun i => edgeB W H i = true) O) => sI_bd (O := O) (n := W * H) (fun i hi => by have := h i hi; omega) (W * H) (Nat.le_refl _))
  have GBD := Lib.hid (sI_bd (O := gF rows W) (n := W * H) (fun i hi => by have := GN.num i hi; omega) (W * H) (Nat.le_refl _))
  have NB : Hid (W * H ≤ 256) := Nat.le_trans (Nat.mul_le_mul (show W ≤ 16 by omega) (show H ≤ 16 by omega)) (by decide)
  rw [hH] at c0 VG GX HS B1 ⊢
  simp only [gO_length] at HO
  rw [SG.out] at HS
  simp only [SO.out] at HO
  generalize waterV rows = wv at *
  clear hg hn hr h hW hH G1 s1 s2 s3 s4 GN SG SO
  generalize W * H = n at *
  go_enter Try.func33, Try.ntmps33
  go_wp2_with fail
  generalize w.alloc (.cells #[.slice A H c] 31) = wB at *
  refine (VG.out _ B1).mono ?_
  rintro e w2 ⟨rfl, hb⟩
  go_wp2_with fail
  refine (HE.out _ (GX.out _ hb)).mono ?_
  rintro e w5 ⟨A5, c5, vs, O, rfl, hm, hP, hb5⟩
  have hb15 := Ext.then_ hb hb5
  have G5 := gO_grey hm
  have hb6 := Ext.more hb15 (.cells #[.slice A5 H c5] 31)
  have PV := Lib.hid (WO.out O hP.out)
  have b1 := OB.out O hP.out.sound
  have b2 := GBD.out
  have nb := NB.out
  have HOO := Lib.hid (HO.out _ _ _ _ _ G5 hP.out.sound)
  generalize sI O n = so at *
  generalize sI (gF rows W) n = sg at *
  clear hm hb5
  go_wp2_with fail
  generalize w5.alloc (.cells #[.slice A5 H c5] 31) = w6 at *
  refine HOO.out.mono ?_
  rintro e w7 ⟨rfl, rfl⟩
  go_wp2_with fail
  refine (HS.out _ (GX.out _ hb6)).mono ?_
  rintro e w7 ⟨rfl, rfl⟩
  have HB := Lib.hid (Ext.then_ B1 hb6)
  go_wp2_with fail
  go_ret2
  exact ⟨by rw [PV.out]; rfl, HB.out⟩

set_option maxRecDepth 100000 in
set_option maxHeartbeats 2000000 in
theorem waterOfS_any (A : Option Addr) (c : Nat) (rows : List (List Int)) (w : World) (h : MatRd w A rows) (hn : rows.length ≤ 1000000000) (hr : ∀ i (h : i < rows.length), rows[i].length ≤ 1000000000) :
    Calls Try.prog 32 #[.agg #[.slice A rows.length c]] w fun e w' => e = .returned (.tuple #[.int .i64 (waterV rows), .bool (greyOk rows)]) ∧ Below w.heap.size w w' := by
  have B1 : Below w.heap.size w (w.alloc (.cells #[.slice A rows.length c] 31)) := Ext.more (Ext.refl _) _
  have G1 := grey_box (c := c) h
  have VG := Lib.hid (fun V (hV : GreyAt V w.heap.size A c rows) => isGreyS_any w.heap.size A c rows V hV hn hr)
  have GX := Lib.hid (fun V (hb : Below (w.alloc (.cells #[.slice A rows.length c] 31)).heap.size (w.alloc (.cells #[.slice A rows.length c] 31)) V) => G1.ext hb)
  cases hg : greyOk rows
  · have F2 : Hid (waterV rows = 0) := by rw [Hid, waterV, hg]; rfl
    rw [hg] at VG
    rw [F2.out]
    clear hg hn hr h G1
    generalize rows.length = H at *
    go_enter Try.func32, Try.ntmps32
    go_wp2_with fail
    generalize w.alloc (.cells #[.slice A H c] 31) = wB at *
    refine (VG.out _ (GX.out _ (Ext.refl _))).mono ?_
    rintro e w2 ⟨rfl, nq, rfl⟩
    go_wp2_with fail
    go_ret2
    exact ⟨rfl, Ext.drawN B1 _⟩
  rw [hg] at VG
  obtain ⟨s1, s2, s3, s4⟩ := tab_sizes hg
  obtain ⟨W, hW⟩ : ∃ W, tabW rows = W := ⟨_, rfl⟩
  obtain ⟨H, hH⟩ : ∃ H, rows.length = H := ⟨_, rfl⟩
  have GN : GreyN rows W H (W * H) := ⟨hg, hW, hH, rfl⟩
  have HE := Lib.hid (fun V (hV : GreyAt V w.heap.size A c rows) => spillsS_any w.heap.size A c rows W H (W * H) V hV GN)
  have LG := Lib.hid (fun V (hV : GreyAt V w.heap.size A c rows) => list_any A c rows W H (W * H) V hV.rd hH GN.row (by omega) (by omega) (by omega) (Nat.mul_comm _ _))
  have CX := Lib.hid (fun V (hV : GreyAt V w.heap.size A c rows) => (show V.cell? ⟨w.heap.size, 0, none⟩ = some (.slice A H c) ∧ w.heap.size < V.heap.size by have := hV.cell; rw [hH] at this; exact ⟨this, hV.lt⟩))
  have NG := Lib.hid (fun i (hi : i < W * H) => GN.get i hi)
  have NLn := Lib.hid GN.len
  have NI : Hid ((ints rows.flatten).length = W * H) := by simp only [Hid, ints, List.length_map]; exact GN.len
  have WO := Lib.hid (fun O (h : IsPass W (W * H) (gF rows W) (fun i => edgeB W H i = true) O) => water_of GN h)
  have DB := Lib.hid (fun O (h : SoundP W (W * H) (gF rows W) (fun i => edgeB W H i = true) O) => sI_bd (O := fun i => O i - gF rows W i) (n := W * H) (fun i hi => by have := h i hi; have := GN.num i hi; omega))
  have EB := Lib.hid (fun O (h : SoundP W (W * H) (gF rows W) (fun i => edgeB W H i = true) O) i (hi : i < W * H) => (show -100 ≤ O i - gF rows W i ∧ O i - gF rows W i ≤ 100 by have := h i hi; have := GN.num i hi; omega))
  have SS := Lib.hid (fun O => sI_sub O (gF rows W) (W * H))
  have NB : W * H ≤ 256 := Nat.le_trans (Nat.mul_le_mul (show W ≤ 16 by omega) (show H ≤ 16 by omega)) (by decide)
  rw [hH] at GX B1 ⊢
  generalize waterV rows = wv at *
  clear hg hn hr h hW hH G1 s1 s2 s3 s4 GN
  generalize gF rows W = G at *
  generalize W * H = n at *
  go_enter Try.func32, Try.ntmps32
  go_wp2_with fail
  generalize w.alloc (.cells #[.slice A H c] 31) = wB at *
  refine (VG.out _ (GX.out _ (Ext.refl _))).mono ?_
  rintro e w2 ⟨rfl, nq, rfl⟩
  have hb : Below wB.heap.size wB (wB.drewN nq) := Ext.drawN (Ext.refl _) _
  generalize wB.drewN nq = w2 at *
  obtain ⟨k0, k1⟩ := CX.out _ (GX.out _ hb)
  go_wp2_with fail
  refine (LG.out _ (GX.out _ hb)).mono ?_
  rintro e w3 ⟨A3, c3, rfl, own3, hb3⟩
  have hb13 := Ext.then_ hb hb3
  have R3 := Rd.of_own own3
  clear k0 k1 own3 hb3
  go_wp2_with fail
  refine (HE.out _ (GX.out _ hb13)).mono ?_
  rintro e w5 ⟨g5, O, rfl, hg5, hO, hP, hb5⟩
  have HB := Lib.hid (Ext.then_ (Ext.then_ B1 hb13) hb5)
  have R5 := Lib.hid (R3.ext hb5)
  have HO := Lib.hid hO
  have PV := Lib.hid (WO.out O hP.out)
  have DBO := Lib.hid (DB.out O hP.out.sound)
  have EBO := Lib.hid (EB.out O hP.out.sound)
  have SSO := Lib.hid (SS.out O)
  have g5l := hO.lt
  clear hb5 hO hP R3
  go_wp2_with fail
  go_loopw [4, 16] (fun s i wr => ∃ k nd : Nat, k ≤ n ∧ i = .int .i64 k ∧ s = .int .i64 (sI (fun i => O i - G i) k) ∧ wr = w5.drewN nd) (fun _ i _ => n - (intOf i).toNat)
  case atStart => exact ⟨0, 0, Nat.zero_le _, rfl, rfl, rfl⟩
  case round =>
    obtain ⟨k, nd, hk, rfl, rfl, rfl⟩ := hrel
    by_cases hlt : k < n
    · obtain ⟨g3, rfl, hg3, hc3⟩ := R5.out (by rw [NI.out]; omega)
      have ca := hc3 k (by rw [NI.out]; exact hlt)
      have ng := NG.out k hlt
      rw [List.getD_eq_getElem?_getD, List.getElem?_eq_getElem (by rw [NLn.out]; exact hlt), Option.getD_some] at ng
      have e1 : (ints rows.flatten)[k]'(by rw [NI.out]; exact hlt) = .int .i64 (G k) := by simp only [ints, List.getElem_map]; rw [ng]
      rw [e1] at ca
      have cb := (HO.out.cell k).trans (intC_get _ k (by rw [fL_length]; exact hlt))
      rw [fL_get] at cb
      have d1 := DBO.out k hk
      have d2 := EBO.out k hlt
      have SK : Hid (sI (fun i => O i - G i) (k + 1) = sI (fun i => O i - G i) k + (O k - G k)) := rfl
      generalize sI (fun i => O i - G i) k = sk at *
      generalize O k = ok at *
      generalize G k = gk at *
      have i0 : (0 : Int) ≤ (k : Int) := by omega
      have i1 : (k : Int) < (n : Int) := by omega
      have j0 : IntKind.i64.wrap (ok - gk) = ok - gk := IntWalk.i64_in _ (by omega)
      have j1 : IntKind.i64.wrap (sk + (ok - gk)) = sk + (ok - gk) := IntWalk.i64_in _ (by omega)
      clear hc3 ng e1
      go_wp2_with fail
      go_quiet (fail)
      go_wp2_with fail
      go_roundw
      case rel => exact ⟨k + 1, _, by omega, by go_num, by rw [SK.out], rfl⟩
      case measure => simp [intOf]; omega
    · obtain rfl : n = k := by omega
      go_wp2_with fail
      go_ret2
      exact ⟨by rw [PV.out, ← SSO.out]; rfl, Ext.drawN HB.out _⟩
end Go.Proofs.Ytajepoopicoodaa
