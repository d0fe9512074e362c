/- Grey pictures: sums, on both sides. GreyOfPicture: the reference's. The mean error, on both sides. -/
import Derived.Test.YtdbelajgndclfaaGIm
import Derived.Test.YtdbelajgndclfaaSGrey
import Derived.Test.YtdbelajgndclfaaGreyP
namespace Go.Proofs.Ytdbelajgndclfaa
open Go.RowKit

def rsum (r : List Int) (k : Nat) : Int := (r.take k).sum
def gsum (rows : List (List Int)) (k : Nat) : Int := ((rows.take k).map List.sum).sum
theorem rsum_succ {r : List Int} {k : Nat} (h : k < r.length) : rsum r (k + 1) = rsum r k + r[k] := by
  unfold rsum
  rw [List.take_add_one, List.getElem?_eq_getElem h, List.sum_append]
  simp
theorem rsum_all (r : List Int) : rsum r r.length = r.sum := by simp [rsum]
theorem gsum_succ {rows : List (List Int)} {k : Nat} (h : k < rows.length) : gsum rows (k + 1) = gsum rows k + rows[k].sum := by
  unfold gsum
  rw [List.take_add_one, List.getElem?_eq_getElem h, List.map_append, List.sum_append]
  simp
theorem rsum_bd {r : List Int} (hv : ∀ x (h : x < r.length), 0 ≤ r[x] ∧ r[x] ≤ 1000) : ∀ k, k ≤ r.length → 0 ≤ rsum r k ∧ rsum r k ≤ 1000 * k := by
  intro k
  induction k with
  | zero => intro _; simp [rsum]
  | succ k ih =>
    intro h
    have := ih (by omega)
    have := hv k (by omega)
    rw [rsum_succ (by omega)]
    omega
theorem gsum_bd {rows : List (List Int)} (hr : ∀ i (h : i < rows.length), rows[i].length ≤ 16) (hv : ∀ y (hy : y < rows.length) x (h : x < rows[y].length), 0 ≤ rows[y][x] ∧ rows[y][x] ≤ 1000) : ∀ k, k ≤ rows.length → 0 ≤ gsum rows k ∧ gsum rows k ≤ 16000 * k := by
  intro k
  induction k with
  | zero => intro _; simp [gsum]
  | succ k ih =>
    intro h
    have := ih (by omega)
    have h2 := rsum_bd (hv k (by omega)) rows[k].length (Nat.le_refl _)
    have h3 := hr k (by omega)
    rw [rsum_all] at h2
    rw [gsum_succ (by omega)]
    omega

set_option maxRecDepth 100000 in
set_option maxHeartbeats 1000000 in
theorem greys_any (p : Nat) (A : Option Addr) (c : Nat) (rows : List (List Int)) (w : World) (h : GreyAt w p A c rows) (hn : rows.length ≤ 16) (hr : ∀ i (h : i < rows.length), rows[i].length ≤ 16) (hv : ∀ y (hy : y < rows.length) x (h : x < rows[y].length), 0 ≤ rows[y][x] ∧ rows[y][x] ≤ 1000) :
    Calls Try.prog 91 #[.pointer (some ⟨p, 0, none⟩)] w fun e w' => e = .returned (.int .i64 (gsum rows rows.length)) ∧ w = w' := by
  have c0 := h.cell
  have HD := Lib.hid h.rd
  have R := Lib.hid (And.intro hr hv)
  have GB := Lib.hid (gsum_bd hr hv)
  have GS := Lib.hid (fun k (h : k < rows.length) => gsum_succ h)
  have G0 : Hid (gsum rows 0 = 0) := by simp [Hid, gsum]
  clear h hr hv
  obtain ⟨n, hnL⟩ : ∃ n, rows.length = n := ⟨_, rfl⟩
  have HN := Lib.hid hnL
  rw [hnL] at c0 hn ⊢
  clear hnL
  go_enter Try.func91, Try.ntmps91
  go_wp2_with fail
  go_loop [3, 5, 7, 13] (fun s _ _ i => ∃ y : Nat, y ≤ n ∧ i = .int .i64 y ∧ s = .int .i64 (gsum rows y)) (fun _ _ _ i => n - (intOf i).toNat)
  case atStart => exact ⟨0, Nat.zero_le _, rfl, by rw [G0.out]⟩
  case round =>
    obtain ⟨y, hy, rfl, rfl⟩ := hrel
    by_cases hlt : y < n
    · have hys : y < rows.length := by rw [HN.out]; exact hlt
      obtain ⟨g, rfl, hg, hc⟩ := HD.out (by omega)
      obtain ⟨Ay, cy, ky, dy⟩ := hc y hys
      obtain ⟨hr, hv⟩ := R.out
      have ly := hr y hys
      have vy := Lib.hid (hv y hys)
      have gb := GB.out y (by omega)
      have GSy := Lib.hid (GS.out y hys)
      have RB := Lib.hid (rsum_bd vy.out)
      clear hc hr hv
      generalize rows[y] = r at *
      obtain ⟨m, hm⟩ : ∃ m, r.length = m := ⟨_, rfl⟩
      rw [hm] at ky ly
      have i2 : (0 : Int) ≤ (y : Int) := by omega
      have i3 : (y : Int) < (n : Int) := by omega
      have HM := Lib.hid hm
      have DY := Lib.hid dy
      have HS : Hid (gsum rows (y + 1) = gsum rows y + rsum r m) := by rw [GSy.out, ← HM.out, rsum_all]; rfl
      have r0 : Hid (rsum r 0 = 0) := by simp [Hid, rsum]
      clear hm dy GSy
      generalize gsum rows y = s0 at *
      go_wp2_with fail
      go_loop [3, 7, 19] (fun s _ i => ∃ x : Nat, x ≤ m ∧ i = .int .i64 x ∧ s = .int .i64 (s0 + rsum r x)) (fun _ _ i => m - (intOf i).toNat)
      case atStart => exact ⟨0, Nat.zero_le _, rfl, by rw [r0.out]; simp⟩
      case round =>
        obtain ⟨x, hx, rfl, rfl⟩ := hrel
        have rb := RB.out x (by have := HM.out; omega)
        by_cases hxl : x < m
        · have hxr : x < r.length := by rw [HM.out]; exact hxl
          obtain ⟨gr, rfl, hgr, hcr⟩ := DY.out (by simp [ints]; omega)
          have kx := hcr x (by simp [ints]; omega)
          have ex : (ints r)[x]'(by simp [ints]; omega) = .int .i64 r[x] := by simp [ints]
          rw [ex] at kx
          have vb := vy.out x hxr
          have RS := Lib.hid (rsum_succ hxr)
          have i4 : (0 : Int) ≤ (x : Int) := by omega
          have i5 : (x : Int) < (m : Int) := by omega
          clear ex hcr
          generalize r[x] = v at *
          go_wp2_with fail
          go_round
          case rel => exact ⟨x + 1, by omega, by go_num, by rw [RS.out]; go_num⟩
          case measure => simp [intOf]; omega
        · obtain rfl : x = m := by omega
          go_wp2_with fail
          go_round
          case rel => exact ⟨y + 1, by omega, by go_num, by rw [HS.out]⟩
          case measure => simp [intOf]; omega
    · obtain rfl : y = n := by omega
      go_wp2_with fail
      go_ret
      exact ⟨rfl, rfl⟩
set_option maxRecDepth 100000 in
set_option maxHeartbeats 1000000 in
theorem sumS_any (p : Nat) (A : Option Addr) (c : Nat) (rows : List (List Int)) (w : World) (h : GreyAt w p A c rows) (hn : rows.length ≤ 16) (hr : ∀ i (h : i < rows.length), rows[i].length ≤ 16) (hv : ∀ y (hy : y < rows.length) x (h : x < rows[y].length), 0 ≤ rows[y][x] ∧ rows[y][x] ≤ 1000) :
    Calls Try.prog 90 #[.pointer (some ⟨p, 0, none⟩)] w fun e w' => e = .returned (.int .i64 (gsum rows rows.length)) ∧ w = w' := by
  have c0 := h.cell
  have HD := Lib.hid h.rd
  have R := Lib.hid (And.intro hr hv)
  have GB := Lib.hid (gsum_bd hr hv)
  have GS := Lib.hid (fun k (h : k < rows.length) => gsum_succ h)
  have G0 : Hid (gsum rows 0 = 0) := by simp [Hid, gsum]
  clear h hr hv
  obtain ⟨n, hnL⟩ : ∃ n, rows.length = n := ⟨_, rfl⟩
  have HN := Lib.hid hnL
  rw [hnL] at c0 hn ⊢
  clear hnL
  go_enter Try.func90, Try.ntmps90
  go_wp2_with fail
  go_loop [3, 4, 5] (fun s i _ => ∃ y : Nat, y ≤ n ∧ i = .int .i64 y ∧ s = .int .i64 (gsum rows y)) (fun _ i _ => n - (intOf i).toNat)
  case atStart => exact ⟨0, Nat.zero_le _, rfl, by rw [G0.out]⟩
  case round =>
    obtain ⟨y, hy, rfl, rfl⟩ := hrel
    by_cases hlt : y < n
    · have hys : y < rows.length := by rw [HN.out]; exact hlt
      obtain ⟨g, rfl, hg, hc⟩ := HD.out (by omega)
      obtain ⟨Ay, cy, ky, dy⟩ := hc y hys
      obtain ⟨hr, hv⟩ := R.out
      have ly := hr y hys
      have vy := Lib.hid (hv y hys)
      have gb := GB.out y (by omega)
      have GSy := Lib.hid (GS.out y hys)
      have RB := Lib.hid (rsum_bd vy.out)
      clear hc hr hv
      generalize rows[y] = r at *
      obtain ⟨m, hm⟩ : ∃ m, r.length = m := ⟨_, rfl⟩
      rw [hm] at ky ly
      have i2 : (0 : Int) ≤ (y : Int) := by omega
      have i3 : (y : Int) < (n : Int) := by omega
      have HM := Lib.hid hm
      have DY := Lib.hid dy
      have HS : Hid (gsum rows (y + 1) = gsum rows y + rsum r m) := by rw [GSy.out, ← HM.out, rsum_all]; rfl
      have r0 : Hid (rsum r 0 = 0) := by simp [Hid, rsum]
      clear hm dy GSy
      generalize gsum rows y = s0 at *
      go_wp2_with fail
      go_loop [3, 5] (fun s i => ∃ x : Nat, x ≤ m ∧ i = .int .i64 x ∧ s = .int .i64 (s0 + rsum r x)) (fun _ i => m - (intOf i).toNat)
      case atStart => exact ⟨0, Nat.zero_le _, rfl, by rw [r0.out]; simp⟩
      case round =>
        obtain ⟨x, hx, rfl, rfl⟩ := hrel
        have rb := RB.out x (by have := HM.out; omega)
        by_cases hxl : x < m
        · have hxr : x < r.length := by rw [HM.out]; exact hxl
          obtain ⟨gr, rfl, hgr, hcr⟩ := DY.out (by simp [ints]; omega)
          have kx := hcr x (by simp [ints]; omega)
          have ex : (ints r)[x]'(by simp [ints]; omega) = .int .i64 r[x] := by simp [ints]
          rw [ex] at kx
          have vb := vy.out x hxr
          have RS := Lib.hid (rsum_succ hxr)
          have i4 : (0 : Int) ≤ (x : Int) := by omega
          have i5 : (x : Int) < (m : Int) := by omega
          clear ex hcr
          generalize r[x] = v at *
          go_wp2_with fail
          go_round
          case rel => exact ⟨x + 1, by omega, by go_num, by rw [RS.out]; go_num⟩
          case measure => simp [intOf]; omega
        · obtain rfl : x = m := by omega
          go_wp2_with fail
          go_round
          case rel => exact ⟨y + 1, by omega, by go_num, by rw [HS.out]⟩
          case measure => simp [intOf]; omega
    · obtain rfl : y = n := by omega
      go_wp2_with fail
      go_ret
      exact ⟨rfl, rfl⟩
end Go.Proofs.Ytdbelajgndclfaa

namespace Go.Proofs.Ytdbelajgndclfaa
open Go.RowKit

set_option maxRecDepth 100000 in
set_option maxHeartbeats 1000000 in
theorem greyOfS_any (A : Option Addr) (c : Nat) (rows : List ByteArray) (w : World) (h : Rd w A (strs rows)) (hn : rows.length ≤ 1000000000) :
    Calls Try.prog 28 #[.agg #[.slice A rows.length c]] w (GreyRes w (if picOk rows then greyOf rows else []) (picOk rows)) := by
  have P0 : PicAt ((w.alloc (.cells #[.slice A rows.length c] 26)).alloc (.cells #[.slice none 0 0] 39)) w.heap.size A c rows := by
    refine ⟨by simp; omega, ?_, h.ext (Ext.more (Ext.more (Ext.refl _) _) _)⟩
    exact cell_more (by simp) (cell_new _ _ _ _)
  have hB0 : Blk ((w.alloc (.cells #[.slice A rows.length c] 26)).alloc (.cells #[.slice none 0 0] 39)) (w.heap.size + 1) 39 #[.slice none 0 0] := by
    have := Blk.made (w.alloc (.cells #[.slice A rows.length c] 26)) 39 #[.slice none 0 0]
    simpa using this
  have IH := Lib.hid (isPic_any w.heap.size A c rows _ P0 hn)
  cases hok : picOk rows
  · rw [hok] at IH
    clear hok h P0
    show Calls _ _ _ _ (GreyRes w [] false)
    go_enter Try.func28, Try.ntmps28
    go_wp2_with fail
    refine IH.out.mono ?_
    rintro e w1 ⟨rfl, k, rfl⟩
    have hBk : Blk (World.drewN ((w.alloc (.cells #[.slice A rows.length c] 26)).alloc (.cells #[.slice none 0 0] 39)) k) (w.heap.size + 1) 39 #[.slice none 0 0] := hB0
    have cs := (hBk.store 0 (.slice none 0 0)).cell 0
    simp at cs
    clear hBk
    go_wp2_with fail
    refine bodyPost_ret (v := .tuple #[.agg #[.slice none 0 0], .bool false]) (by simp [results, Try.results28, go_sem, cs]) rfl ⟨none, 0, [], rfl, MatAt.nil _ _ _ _ _ (World.ownsRow_nil _ _ _ _) (fun a ha => by cases ha), ?_⟩
    exact (Ext.drawN (Ext.more (Ext.more (Ext.refl w) (.cells #[.slice A rows.length c] 26)) (.cells #[.slice none 0 0] 39)) k).setCell (p := ⟨w.heap.size + 1, 0, none⟩) (by show w.heap.size ≤ w.heap.size + 1; omega) _
  · rw [hok] at IH
    have SH := Lib.hid (fun V (hV : PicAt V w.heap.size A c rows) => greyS_any w.heap.size A c rows V hV hok)
    clear hok h
    show Calls _ _ _ _ (GreyRes w (greyOf rows) true)
    have hlen : (greyOf rows).length = rows.length := gridI_length _ _ _
    generalize greyOf rows = RR at *
    go_enter Try.func28, Try.ntmps28
    go_wp2_with fail
    refine IH.out.mono ?_
    rintro e w1 ⟨rfl, k, rfl⟩
    have P1 := P0.drewN k
    clear P0
    go_wp2_with fail
    refine (SH.out _ P1).mono ?_
    rintro e w2 ⟨A', c', vs, rfl, hM, hb⟩
    have hBk : Blk (World.drewN ((w.alloc (.cells #[.slice A rows.length c] 26)).alloc (.cells #[.slice none 0 0] 39)) k) (w.heap.size + 1) 39 #[.slice none 0 0] := hB0
    have hB1 := hBk.under hb hBk.lt
    have c1 := hB1.cell 0
    have f1 := hB1.free 0
    have cs := (hB1.store 0 (.slice A' rows.length c')).cell 0
    simp at c1 cs
    have hlt := hB1.lt
    simp only [World.heap_drewN, World.size_alloc] at hM hb
    have HM := Lib.hid hM
    have HL := Lib.hid hlen
    clear hBk hB0 P1 hM hlen
    go_wp2_with fail
    refine bodyPost_ret (v := .tuple #[.agg #[.slice A' rows.length c'], .bool true]) (by simp [results, Try.results28, go_sem, cs]) rfl ⟨A', c', vs, by rw [HL.out], ?_, ?_⟩
    · have hk := HM.out.keep ((Chg.refl (fun b => b < w.heap.size + 1 + 1) w2).store (p := ⟨w.heap.size + 1, 0, none⟩) (by show w.heap.size + 1 < w.heap.size + 1 + 1; omega) (.slice A' rows.length c')) (fun b h1 h2 h3 => by omega)
      have hz2 : (w2.setCell ⟨w.heap.size + 1, 0, none⟩ (.slice A' rows.length c')).heap.size = w2.heap.size := by simp [World.setCell]
      rw [hz2]
      exact hk.low (by omega) (Nat.le_refl _)
    · exact ((Ext.drawN (Ext.more (Ext.more (Ext.refl w) (.cells #[.slice A rows.length c] 26)) (.cells #[.slice none 0 0] 39)) k).trans (hb.mono (by omega))).setCell (p := ⟨w.heap.size + 1, 0, none⟩) (by show w.heap.size ≤ w.heap.size + 1; omega) _

end Go.Proofs.Ytdbelajgndclfaa

namespace Go.Proofs.Ytdbelajgndclfaa
open Go.RowKit

theorem grid_get (f : Nat → Nat → Int) (W H y : Nat) (h : y < (gridI f W H).length) : (gridI f W H)[y] = rowI f y W := by simp [gridI]
theorem rowI_get (f : Nat → Nat → Int) (y k x : Nat) (h : x < (rowI f y k).length) : (rowI f y k)[x] = f x y := by simp [rowI]
theorem gf_bd (L : List Bool) (W H x y : Nat) : 0 ≤ gf L W H x y ∧ gf L W H x y ≤ 1000 := by unfold gf; split <;> omega
theorem greyOf_row {rows : List ByteArray} (hp : picOk rows = true) : (greyOf rows).length ≤ 16 ∧ (∀ i (h : i < (greyOf rows).length), (greyOf rows)[i].length ≤ 16) ∧ (∀ y (hy : y < (greyOf rows).length) x (h : x < (greyOf rows)[y].length), 0 ≤ (greyOf rows)[y][x] ∧ (greyOf rows)[y][x] ≤ 1000) := by
  obtain ⟨s1, s2, s3, s4⟩ := picOk_sizes hp
  unfold greyOf
  refine ⟨by rw [gridI_length]; exact s2, fun i h => by rw [grid_get, rowI_length]; exact s4, fun y hy x h => ?_⟩
  have e : (gridI (gf (picBits rows) (picW rows) rows.length) (picW rows) rows.length)[y][x] = gf (picBits rows) (picW rows) rows.length x y := by
    simp only [grid_get]
    rw [rowI_get]
  rw [e]
  exact gf_bd _ _ _ _ _
theorem greyOk_row {rows : List (List Int)} (hp : greyOk rows = true) : rows.length ≤ 16 ∧ (∀ i (h : i < rows.length), rows[i].length ≤ 16) ∧ (∀ y (hy : y < rows.length) x (h : x < rows[y].length), 0 ≤ rows[y][x] ∧ rows[y][x] ≤ 1000) := by
  obtain ⟨s1, s2, s3, s4⟩ := tab_sizes hp
  refine ⟨s2, fun i h => by rw [tab_row hp i h]; exact s4, fun y hy x h => ?_⟩
  have := tab_num hp y x hy h
  omega

def meanOk (g : List (List Int)) (p : List ByteArray) : Bool := greyOk g && picOk p && decide (tabW g = picW p) && decide (g.length = p.length)
def meanV (g : List (List Int)) (p : List ByteArray) : Int := if meanOk g p then gsum g g.length - gsum (greyOf p) (greyOf p).length else 0

set_option maxRecDepth 100000 in
set_option maxHeartbeats 1000000 in
theorem meanS_any (A : Option Addr) (c : Nat) (gr : List (List Int)) (A2 : Option Addr) (c2 : Nat) (pr : List ByteArray) (w : World) (h : MatRd w A gr) (hn : gr.length ≤ 1000000000) (hr : ∀ i (h : i < gr.length), gr[i].length ≤ 1000000000) (h2 : Rd w A2 (strs pr)) (hn2 : pr.length ≤ 1000000000) :
    Calls Try.prog 37 #[.agg #[.slice A gr.length c], .agg #[.slice A2 pr.length c2]] w fun e w' => e = .returned (.tuple #[.int .i64 (meanV gr pr), .bool (meanOk gr pr)]) ∧ Below w.heap.size w w' := by
  have B1 : Below w.heap.size w ((w.alloc (.cells #[.slice A gr.length c] 39)).alloc (.cells #[.slice A2 pr.length c2] 26)) := Ext.more (Ext.more (Ext.refl _) _) _
  have G1 : GreyAt ((w.alloc (.cells #[.slice A gr.length c] 39)).alloc (.cells #[.slice A2 pr.length c2] 26)) w.heap.size A c gr := (GreyAt.boxed h _).ext (Ext.more (Ext.refl _) _)
  have P1 : PicAt ((w.alloc (.cells #[.slice A gr.length c] 39)).alloc (.cells #[.slice A2 pr.length c2] 26)) (w.heap.size + 1) A2 c2 pr := by
    refine ⟨by simp, ?_, h2.ext B1⟩
    have := cell_new (w.alloc (.cells #[.slice A gr.length c] 39)) #[.slice A2 pr.length c2] 26 0
    simp at this ⊢
  have IG := Lib.hid (isGreyS_any w.heap.size A c gr _ G1 hn hr)
  have IP := Lib.hid (fun k => isPic_any (w.heap.size + 1) A2 c2 pr _ (P1.drewN k) hn2)
  cases hg : greyOk gr
  · have F : Hid (meanOk gr pr = false ∧ meanV gr pr = 0) := by simp [Hid, meanV, meanOk, hg]
    rw [hg] at IG
    clear hg G1 P1 h h2 hr
    rw [F.out.1, F.out.2]
    go_enter Try.func37, Try.ntmps37
    go_wp2_with fail
    refine IG.out.mono ?_
    rintro e w1 ⟨rfl, k, rfl⟩
    go_wp2_with fail
    go_ret2
    exact ⟨rfl, Ext.drawN B1 _⟩
  rw [hg] at IG
  cases hp : picOk pr
  · have F : Hid (meanOk gr pr = false ∧ meanV gr pr = 0) := by simp [Hid, meanV, meanOk, hp]
    rw [hp] at IP
    clear hg hp G1 P1 h h2 hr
    rw [F.out.1, F.out.2]
    go_enter Try.func37, Try.ntmps37
    go_wp2_with fail
    refine IG.out.mono ?_
    rintro e w1 ⟨rfl, k, rfl⟩
    go_wp2_with fail
    refine (IP.out _).mono ?_
    rintro e w1 ⟨rfl, k2, rfl⟩
    go_wp2_with fail
    go_ret2
    exact ⟨rfl, Ext.drawN B1 _⟩
  rw [hp] at IP
  obtain ⟨s1, s2, s3, s4⟩ := tab_sizes hg
  obtain ⟨t1, t2, t3, t4⟩ := picOk_sizes hp
  have SZ := Lib.hid (fun k => sizeS_any w.heap.size A c gr _ (G1.drewN k) s1)
  have WD := Lib.hid (fun k => width_any (w.heap.size + 1) A2 c2 pr _ (P1.drewN k) t1)
  have HT := Lib.hid (fun k => height_any (w.heap.size + 1) A2 c2 pr _ (P1.drewN k))
  have e2 := Lib.hid hp
  have GS := Lib.hid (fun k => greyS_any (w.heap.size + 1) A2 c2 pr _ (P1.drewN k) hp)
  have SUM := Lib.hid (fun V (hV : GreyAt V w.heap.size A c gr) => sumS_any w.heap.size A c gr V hV s2 (greyOk_row hg).2.1 (greyOk_row hg).2.2)
  have SUM2 := Lib.hid (fun p' A' c' V (hV : GreyAt V p' A' c' (greyOf pr)) => sumS_any p' A' c' (greyOf pr) V hV (greyOf_row hp).1 (greyOf_row hp).2.1 (greyOf_row hp).2.2)
  by_cases hw : tabW gr = picW pr ∧ gr.length = pr.length
  · have F : Hid (meanOk gr pr = true ∧ meanV gr pr = gsum gr gr.length - gsum (greyOf pr) (greyOf pr).length) := by
      have : meanOk gr pr = true := by simp [meanOk, hg, hp, hw.1, hw.2]
      exact ⟨this, by simp [meanV, this]⟩
    rw [F.out.1, F.out.2]
    have q1 : ((tabW gr : Int) != (picW pr : Int)) = false := by simp [hw.1]
    have q2 : ((gr.length : Int) != (pr.length : Int)) = false := by simp [hw.2]
    have gb1 := gsum_bd (greyOk_row hg).2.1 (greyOk_row hg).2.2 gr.length (Nat.le_refl _)
    have gb2 := gsum_bd (greyOf_row hp).2.1 (greyOf_row hp).2.2 _ (Nat.le_refl _)
    have gl := (greyOf_row hp).1
    have hgl : (greyOf pr).length = pr.length := gridI_length _ _ _
    rw [hgl] at SUM2 gb2 gl ⊢
    have HGL := Lib.hid hgl
    clear hg hp h h2 hr hw F hgl
    have HG1 := Lib.hid G1
    have HP1 := Lib.hid P1
    clear G1 P1
    go_enter Try.func37, Try.ntmps37
    go_wp2_with fail
    refine IG.out.mono ?_
    rintro e w1 ⟨rfl, k, rfl⟩
    go_wp2_with fail
    refine (IP.out _).mono ?_
    rintro e w1 ⟨rfl, k2, rfl⟩
    go_wp2_with fail
    refine (SZ.out _).mono ?_
    rintro e w1 ⟨rfl, k3, rfl⟩
    go_wp2_with fail
    refine (WD.out _).mono ?_
    rintro e w1 ⟨rfl, rfl⟩
    go_wp2_with fail
    refine (HT.out _).mono ?_
    rintro e w1 ⟨rfl, rfl⟩
    go_wp2_with fail
    refine (GS.out _).mono ?_
    rintro e w1 ⟨A3, c3, vs, rfl, hM, hb3⟩
    have B2 := Ext.more (Ext.then_ (Ext.drawN B1 _) hb3) (.cells #[.slice A3 pr.length c3] 39)
    have G2 := Lib.hid ((HG1.out.drewN _).ext (Ext.more hb3 (.cells #[.slice A3 pr.length c3] 39)))
    have G3 := GreyAt.boxed (c := c3) hM.rd 39
    rw [HGL.out] at G3
    have G3 := Lib.hid G3
    clear hM hb3
    go_wp2_with fail
    refine (SUM.out _ G2.out).mono ?_
    rintro e w2 ⟨rfl, rfl⟩
    go_wp2_with fail
    refine (SUM2.out _ _ _ _ G3.out).mono ?_
    rintro e w2 ⟨rfl, rfl⟩
    go_wp2_with fail
    go_ret2
    exact ⟨rfl, B2⟩
  · have F : Hid (meanOk gr pr = false ∧ meanV gr pr = 0) := by
      have : meanOk gr pr = false := by
        simp only [meanOk, hg, hp, Bool.true_and, Bool.and_eq_false_iff, decide_eq_false_iff_not]; omega
      exact ⟨this, by simp [meanV, this]⟩
    rw [F.out.1, F.out.2]
    clear SUM SUM2 GS
    by_cases hw1 : tabW gr = picW pr
    · have q1 : ((tabW gr : Int) != (picW pr : Int)) = false := by simp [hw1]
      have q2 : ((gr.length : Int) != (pr.length : Int)) = true := by simp; omega
      clear hg hp h h2 hr hw hw1 F G1 P1
      go_enter Try.func37, Try.ntmps37
      go_wp2_with fail
      refine IG.out.mono ?_
      rintro e w1 ⟨rfl, k, rfl⟩
      go_wp2_with fail
      refine (IP.out _).mono ?_
      rintro e w1 ⟨rfl, k2, rfl⟩
      go_wp2_with fail
      refine (SZ.out _).mono ?_
      rintro e w1 ⟨rfl, k3, rfl⟩
      go_wp2_with fail
      refine (WD.out _).mono ?_
      rintro e w1 ⟨rfl, rfl⟩
      go_wp2_with fail
      refine (HT.out _).mono ?_
      rintro e w1 ⟨rfl, rfl⟩
      go_wp2_with fail
      go_ret2
      exact ⟨rfl, Ext.drawN B1 _⟩
    · have q1 : ((tabW gr : Int) != (picW pr : Int)) = true := by simp; omega
      clear hg hp h h2 hr hw hw1 F G1 P1
      go_enter Try.func37, Try.ntmps37
      go_wp2_with fail
      refine IG.out.mono ?_
      rintro e w1 ⟨rfl, k, rfl⟩
      go_wp2_with fail
      refine (IP.out _).mono ?_
      rintro e w1 ⟨rfl, k2, rfl⟩
      go_wp2_with fail
      refine (SZ.out _).mono ?_
      rintro e w1 ⟨rfl, k3, rfl⟩
      go_wp2_with fail
      refine (WD.out _).mono ?_
      rintro e w1 ⟨rfl, rfl⟩
      go_wp2_with fail
      go_ret2
      exact ⟨rfl, Ext.drawN B1 _⟩
set_option maxRecDepth 100000 in
set_option maxHeartbeats 1000000 in
theorem mean_any (A : Option Addr) (c : Nat) (gr : List (List Int)) (A2 : Option Addr) (c2 : Nat) (pr : List ByteArray) (w : World) (h : MatRd w A gr) (hn : gr.length ≤ 1000000000) (hr : ∀ i (h : i < gr.length), gr[i].length ≤ 1000000000) (h2 : Rd w A2 (strs pr)) (hn2 : pr.length ≤ 1000000000) :
    Calls Try.prog 38 #[.agg #[.slice A gr.length c], .agg #[.slice A2 pr.length c2]] w fun e w' => e = .returned (.tuple #[.int .i64 (meanV gr pr), .bool (meanOk gr pr)]) ∧ Below w.heap.size w w' := by
  have B1 : Below w.heap.size w ((w.alloc (.cells #[.slice A gr.length c] 39)).alloc (.cells #[.slice A2 pr.length c2] 26)) := Ext.more (Ext.more (Ext.refl _) _) _
  have G1 : GreyAt ((w.alloc (.cells #[.slice A gr.length c] 39)).alloc (.cells #[.slice A2 pr.length c2] 26)) w.heap.size A c gr := (GreyAt.boxed h _).ext (Ext.more (Ext.refl _) _)
  have IM := Lib.hid (imageOf_any A2 c2 pr _ (h2.ext B1) hn2)
  cases hp : picOk pr
  · have F : Hid (meanOk gr pr = false ∧ meanV gr pr = 0) := by simp [Hid, meanV, meanOk, hp]
    have IH := Lib.hid (IM.out.mono (fun e w' hI => (show e = .returned (.tuple #[.pointer none, .bool false]) ∧ Below _ _ w' from ⟨hI.no hp, hI.ext⟩)))
    clear IM hp G1 h h2 hr
    rw [F.out.1, F.out.2]
    go_enter Try.func38, Try.ntmps38
    go_wp2_with fail
    refine IH.out.mono ?_
    rintro e w1 ⟨rfl, hb⟩
    go_wp2_with fail
    go_ret2
    exact ⟨rfl, Ext.then_ B1 hb⟩
  obtain ⟨t1, t2, t3, t4⟩ := picOk_sizes hp
  have IH := Lib.hid (IM.out.mono (fun e w' hI => (show (∃ p g, e = .returned (.tuple #[.pointer (some ⟨p, 0, none⟩), .bool true]) ∧ Img w' p g (picW pr) pr.length (picBits pr)) ∧ Below _ _ w' from ⟨(hI.yes hp).elim fun p h => h.elim fun g h => ⟨p, g, h.1, h.2.1⟩, hI.ext⟩)))
  have VG := Lib.hid (fun V (hV : MatRd V A gr) => validGrey_any A c gr V hV hn hr)
  clear IM
  cases hg : greyOk gr
  · have F : Hid (meanOk gr pr = false ∧ meanV gr pr = 0) := by simp [Hid, meanV, meanOk, hg]
    rw [hg] at VG
    have HG1 := Lib.hid G1
    clear hg hp G1 h h2 hr
    rw [F.out.1, F.out.2]
    go_enter Try.func38, Try.ntmps38
    go_wp2_with fail
    refine IH.out.mono ?_
    rintro e w1 ⟨⟨p, g, rfl, hm⟩, hb⟩
    have G2 := HG1.out.ext hb
    have k2 := G2.cell
    have HG2 := Lib.hid G2
    clear hm G2
    go_wp2_with fail
    refine (VG.out _ HG2.out.rd).mono ?_
    rintro e w2 ⟨rfl, hb2⟩
    go_wp2_with fail
    go_ret2
    exact ⟨rfl, Ext.then_ B1 (Ext.then_ hb hb2)⟩
  obtain ⟨s1, s2, s3, s4⟩ := tab_sizes hg
  rw [hg] at VG
  have SZ := Lib.hid (fun V (hV : GreyAt V w.heap.size A c gr) => sizes_any w.heap.size A c gr V hV s1)
  have GH := Lib.hid (fun (p g : Nat) (V : World) (hV : Img V p g (picW pr) pr.length (picBits pr)) => grey_any p g _ _ _ V hV (by omega) (by omega))
  have SUM := Lib.hid (fun V (hV : GreyAt V w.heap.size A c gr) => greys_any w.heap.size A c gr V hV s2 (greyOk_row hg).2.1 (greyOk_row hg).2.2)
  have SUM2 := Lib.hid (fun p' A' c' V (hV : GreyAt V p' A' c' (greyOf pr)) => greys_any p' A' c' (greyOf pr) V hV (greyOf_row hp).1 (greyOf_row hp).2.1 (greyOf_row hp).2.2)
  have HG1 := Lib.hid G1
  clear G1
  by_cases hw : tabW gr = picW pr ∧ gr.length = pr.length
  · have F : Hid (meanOk gr pr = true ∧ meanV gr pr = gsum gr gr.length - gsum (greyOf pr) (greyOf pr).length) := by
      have : meanOk gr pr = true := by simp [meanOk, hg, hp, hw.1, hw.2]
      exact ⟨this, by simp [meanV, this]⟩
    rw [F.out.1, F.out.2]
    have q1 : ((tabW gr : Int) != (picW pr : Int)) = false := by simp [hw.1]
    have q2 : ((gr.length : Int) != (pr.length : Int)) = false := by simp [hw.2]
    have gb1 := gsum_bd (greyOk_row hg).2.1 (greyOk_row hg).2.2 gr.length (Nat.le_refl _)
    have gb2 := gsum_bd (greyOf_row hp).2.1 (greyOf_row hp).2.2 _ (Nat.le_refl _)
    have gl := (greyOf_row hp).1
    have hgl : (greyOf pr).length = pr.length := gridI_length _ _ _
    rw [hgl] at SUM2 gb2 gl ⊢
    have HGL := Lib.hid hgl
    have HW := Lib.hid hw
    clear hg hp h h2 hr hw F hgl
    go_enter Try.func38, Try.ntmps38
    go_wp2_with fail
    refine IH.out.mono ?_
    rintro e w1 ⟨⟨p, g, rfl, hm⟩, hb⟩
    have G2 := HG1.out.ext hb
    have k2 := G2.cell
    have HG2 := Lib.hid G2
    have HM := Lib.hid hm
    clear hm G2
    go_wp2_with fail
    refine (VG.out _ HG2.out.rd).mono ?_
    rintro e w2 ⟨rfl, hb2⟩
    have HM2 := Lib.hid (HM.out.ext hb2)
    have HG3 := Lib.hid (HG2.out.ext hb2)
    have B2 := Ext.then_ B1 (Ext.then_ hb hb2)
    clear hb hb2 k2
    go_wp2_with fail
    refine (SZ.out _ HG3.out).mono ?_
    rintro e w3 ⟨rfl, k, rfl⟩
    have m0 := (HM2.out.drewN k).hdr.cell 0
    have m1 := (HM2.out.drewN k).hdr.cell 1
    simp at m0 m1
    go_wp2_with fail
    refine (GH.out p g _ (HM2.out.drewN k)).mono ?_
    rintro e w3 ⟨A3, c3, vs, rfl, hM, hb3⟩
    have B3 := Ext.more (Ext.then_ (Ext.drawN B2 _) hb3) (.cells #[.slice A3 pr.length c3] 39)
    have G4 := Lib.hid ((HG3.out.drewN _).ext (Ext.more hb3 (.cells #[.slice A3 pr.length c3] 39)))
    have hM' : MatRd w3 A3 (greyOf pr) := hM.rd
    have G5 := GreyAt.boxed (c := c3) hM' 39
    rw [HGL.out] at G5
    have G5 := Lib.hid G5
    clear hM hb3 hM'
    go_wp2_with fail
    refine (SUM.out _ G4.out).mono ?_
    rintro e w4 ⟨rfl, rfl⟩
    go_wp2_with fail
    refine (SUM2.out _ _ _ _ G5.out).mono ?_
    rintro e w4 ⟨rfl, rfl⟩
    go_wp2_with fail
    go_ret2
    exact ⟨rfl, B3⟩
  · have F : Hid (meanOk gr pr = false ∧ meanV gr pr = 0) := by
      have : meanOk gr pr = false := by
        simp only [meanOk, hg, hp, Bool.true_and, Bool.and_eq_false_iff, decide_eq_false_iff_not]; omega
      exact ⟨this, by simp [meanV, this]⟩
    rw [F.out.1, F.out.2]
    clear SUM SUM2 GH
    by_cases hw1 : tabW gr = picW pr
    · have q1 : ((tabW gr : Int) != (picW pr : Int)) = false := by simp [hw1]
      have q2 : ((gr.length : Int) != (pr.length : Int)) = true := by simp; omega
      clear hg hp h h2 hr hw hw1 F
      go_enter Try.func38, Try.ntmps38
      go_wp2_with fail
      refine IH.out.mono ?_
      rintro e w1 ⟨⟨p, g, rfl, hm⟩, hb⟩
      have G2 := HG1.out.ext hb
      have k2 := G2.cell
      have HG2 := Lib.hid G2
      have HM := Lib.hid hm
      clear hm G2
      go_wp2_with fail
      refine (VG.out _ HG2.out.rd).mono ?_
      rintro e w2 ⟨rfl, hb2⟩
      have HM2 := Lib.hid (HM.out.ext hb2)
      have HG3 := Lib.hid (HG2.out.ext hb2)
      have B2 := Ext.then_ B1 (Ext.then_ hb hb2)
      clear hb hb2 k2
      go_wp2_with fail
      refine (SZ.out _ HG3.out).mono ?_
      rintro e w3 ⟨rfl, k, rfl⟩
      have m0 := (HM2.out.drewN k).hdr.cell 0
      have m1 := (HM2.out.drewN k).hdr.cell 1
      simp at m0 m1
      go_wp2_with fail
      go_ret2
      exact ⟨rfl, Ext.drawN B2 _⟩
    · have q1 : ((tabW gr : Int) != (picW pr : Int)) = true := by simp; omega
      clear hg hp h h2 hr hw hw1 F
      go_enter Try.func38, Try.ntmps38
      go_wp2_with fail
      refine IH.out.mono ?_
      rintro e w1 ⟨⟨p, g, rfl, hm⟩, hb⟩
      have G2 := HG1.out.ext hb
      have k2 := G2.cell
      have HG2 := Lib.hid G2
      have HM := Lib.hid hm
      clear hm G2
      go_wp2_with fail
      refine (VG.out _ HG2.out.rd).mono ?_
      rintro e w2 ⟨rfl, hb2⟩
      have HM2 := Lib.hid (HM.out.ext hb2)
      have HG3 := Lib.hid (HG2.out.ext hb2)
      have B2 := Ext.then_ B1 (Ext.then_ hb hb2)
      clear hb hb2 k2
      go_wp2_with fail
      refine (SZ.out _ HG3.out).mono ?_
      rintro e w3 ⟨rfl, k, rfl⟩
      have m0 := (HM2.out.drewN k).hdr.cell 0
      have m1 := (HM2.out.drewN k).hdr.cell 1
      simp at m0 m1
      go_wp2_with fail
      go_ret2
      exact ⟨rfl, Ext.drawN B2 _⟩
end Go.Proofs.Ytdbelajgndclfaa
