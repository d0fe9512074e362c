/- Halftones: what the law says of them, plain; the calls' contracts as the law needs them. The law FnHalftones, walked. -/
import Derived.Test.YtdbelajgndclfaaR8G
import Derived.Test.YtdbelajgndclfaaSpI
import Derived.Test.YtdbelajgndclfaaOrdP
import Derived.Test.YtdbelajgndclfaaMean
import Derived.Test.YtdbelajgndclfaaLawRes
import Derived.Test.YtdbelajgndclfaaHQ
import Derived.Deep.CutRange
import Derived.Deep.DeepCutAuto
namespace Go.Proofs.Ytdbelajgndclfaa
open Go.RowKit

/-- The sum of the first k. -/
def sI (O : Nat → Int) : Nat → Int
  | 0 => 0
  | k + 1 => sI O k + O k
theorem rsum_sI {O : Nat → Int} {r : List Int} {W b : Nat} (hl : r.length = W) (hg : ∀ x (h : x < r.length), r[x] = O (b + x)) : ∀ j, j ≤ W → sI O (b + j) = sI O b + rsum r j := by
  intro j
  induction j with
  | zero => intro _; simp [rsum]
  | succ j ih => intro h; rw [rsum_succ (by omega), ← Nat.add_assoc, sI, ih (by omega), hg j (by omega)]; omega
theorem gsum_sI {O : Nat → Int} {rows : List (List Int)} {W : Nat} (hr : ∀ y (h : y < rows.length), rows[y].length = W) (hg : ∀ y (hy : y < rows.length) x (h : x < rows[y].length), rows[y][x] = O (y * W + x)) : ∀ k, k ≤ rows.length → gsum rows k = sI O (k * W) := by
  intro k
  induction k with
  | zero => intro _; simp [gsum, sI]
  | succ k ih =>
    intro h
    have := rsum_sI (b := k * W) (hr k (by omega)) (hg k (by omega)) W (Nat.le_refl _)
    rw [gsum_succ (by omega), ih (by omega), Nat.succ_mul, this, ← rsum_all, hr k (by omega)]
theorem sI_bd {O : Nat → Int} {n : Nat} (h : ∀ i, i < n → 0 ≤ O i ∧ O i ≤ 99) : ∀ k, k ≤ n → 0 ≤ sI O k ∧ sI O k ≤ 99 * k := by
  intro k
  induction k with
  | zero => intro _; simp [sI]
  | succ k ih => intro hk; have := ih (by omega); have := h k (by omega); rw [sI]; omega
/-- The white ones of the first k. -/
def whN (b : Nat → Bool) : Nat → Nat
  | 0 => 0
  | k + 1 => whN b k + (if b k then 0 else 1)
theorem whN_le (b : Nat → Bool) : ∀ k, whN b k ≤ k
  | 0 => Nat.le_refl _
  | k + 1 => by have := whN_le b k; rw [whN]; split <;> omega
theorem wh_sI (b : Nat → Bool) : ∀ k, sI (fun i => if b i then 0 else 99) k = 99 * (whN b k : Int)
  | 0 => rfl
  | k + 1 => by
    rw [sI, wh_sI b k, whN]
    cases b k <;> simp <;> omega
theorem sI_congr {O P : Nat → Int} : ∀ k, (∀ i, i < k → O i = P i) → sI O k = sI P k := by
  intro k
  induction k with
  | zero => intro _; rfl
  | succ k ih => intro h; rw [sI, sI, ih (fun i hi => h i (by omega)), h k (by omega)]
theorem tail_sI (G : Nat → Int) : ∀ m j, tailF id G j m = sI G (j + m) - sI G j
  | 0, j => by simp [tailF]
  | m + 1, j => by
    rw [tailF, tail_sI G m (j + 1), show j + (m + 1) = j + 1 + m by omega, sI]
    simp only [id]; omega
theorem spd_sum {W H : Nat} {G : Nat → Int} : ∀ k, k ≤ W * H → phi id (W * H) (spdTo W H G k) k = sI G (W * H) - 99 * (whN (spdB W H G) k : Int)
  | 0, _ => by
    simp only [spdTo, phi, whN, Nat.sub_zero]
    rw [tail_sI]
    simp [sI]
  | k + 1, h => by
    obtain ⟨hx, hy, e⟩ := xy_of (show k < W * H by omega)
    have ih := spd_sum (W := W) (H := H) (G := G) k (by omega)
    have h1 := spdM_id (e := errE ((spdTo W H G k).1 k)) (s := spdTo W H G k) hx hy
    rw [e] at h1
    have h5 := phi_step (f := id) (s := spdTo W H G k) (show k < W * H by omega)
    rw [spdTo, h1, h5, ih, whN]
    have hb : spdB W H G k = decide ((spdTo W H G k).1 k < 50) := rfl
    rw [hb]
    generalize (spdTo W H G k).1 k = v
    by_cases h50 : v < 50
    · simp [errE, h50]
    · simp [errE, h50]; omega
/-- What is lost is the difference of the sums. -/
theorem spd_lost {W H : Nat} {G : Nat → Int} : (spdTo W H G (W * H)).2 = sI G (W * H) - 99 * (whN (spdB W H G) (W * H) : Int) := by
  have := spd_sum (W := W) (H := H) (G := G) (W * H) (Nat.le_refl _)
  simp only [phi, Nat.sub_self, tailF] at this
  simpa using this
theorem setF_id (O : Nat → Int) (s : Nat) : setF O s (O s) = O := by
  funext i
  by_cases e : i = s
  · subst e; exact setF_same _ _ _
  · exact setF_ne e _
theorem spdN_zero (m : Nat) : spdN 0 m = 0 := by
  match m with
  | 0 => rfl
  | 1 => rfl
  | 2 => rfl
  | m + 3 => rfl
theorem spdM_zero (W H x y : Nat) (G : Nat → Int) : ∀ m, spdM W H x y 0 (G, 0) m = (G, 0)
  | 0 => rfl
  | m + 1 => by
    rw [spdM, spdM_zero W H x y G m, spdN_zero, giveO]
    split
    · simp only [Int.add_zero, setF_id]
    · rfl
theorem spd_own {W H : Nat} {G : Nat → Int} (hG : ∀ k, k < W * H → G k = 0 ∨ G k = 99) : ∀ k, k ≤ W * H → spdTo W H G k = (G, 0)
  | 0, _ => rfl
  | k + 1, h => by
    rw [spdTo, spd_own hG k (by omega)]
    have e : errE ((G, (0 : Int)).1 k) = 0 := by
      rcases hG k (by omega) with h | h <;> simp [errE, h]
    rw [e, spdM_zero]

/-- The grey picture of a picture that was told. -/
theorem greyOf_told {L : List Bool} {W H : Nat} (hH0 : 0 < H) (hL : L.length = W * H) : greyOf (rowsTo L W H) = gridI (gf L W H) W H := by
  rw [greyOf, told_bits hH0 hL, told_w hH0, rowsTo_length]
theorem gridI_w (f : Nat → Nat → Int) (W H : Nat) (hH : 0 < H) : tabW (gridI f W H) = W := by
  rw [← tabW_head (by rw [gridI_length]; exact hH), grid_get, rowI_length]
theorem gridI_ok {L : List Bool} {W H : Nat} (hW0 : 0 < W) (hW : W ≤ 16) (hH0 : 0 < H) (hH : H ≤ 16) : greyOk (gridI (gf L W H) W H) = true :=
  (greyOk_of (W := W) (by rw [gridI_length]; exact hH0) (by rw [gridI_length]; exact hH) hW0 hW (fun r hr => by
    simp only [gridI, List.mem_map] at hr
    obtain ⟨y, _, rfl⟩ := hr
    refine ⟨rowI_length _ _ _, fun n hn => ?_⟩
    simp only [rowI, List.mem_map] at hn
    obtain ⟨x, _, rfl⟩ := hn
    unfold gf; split <;> omega)).1
theorem gF_grid {b : Nat → Bool} {W H k : Nat} (hk : k < W * H) : gF (gridI (gf (bTo b (W * H)) W H) W H) W k = if b k then 0 else 99 := by
  obtain ⟨hx, hy, e⟩ := xy_of hk
  have h1 : k / W < (gridI (gf (bTo b (W * H)) W H) W H).length := by rw [gridI_length]; exact hy
  have h2 : k % W < (gridI (gf (bTo b (W * H)) W H) W H)[k / W].length := by rw [grid_get, rowI_length]; exact hx
  have := gF_at hx h1 h2
  rw [e] at this
  rw [this]
  simp only [grid_get, rowI_get, gf]
  rw [bit_bTo hx hy, e]

theorem spdL_bTo {rows : List (List Int)} : spdL rows = bTo (spdB (tabW rows) rows.length (gF rows (tabW rows))) (tabW rows * rows.length) := rfl
/-- A halftone's own grey picture: spread again. -/
theorem own_spd {b : Nat → Bool} {W H : Nat} (hH0 : 0 < H) : spdL (gridI (gf (bTo b (W * H)) W H) W H) = bTo b (W * H) ∧ spdZ (gridI (gf (bTo b (W * H)) W H) W H) = 0 := by
  have hz : ∀ k, k < W * H → gF (gridI (gf (bTo b (W * H)) W H) W H) W k = 0 ∨ gF (gridI (gf (bTo b (W * H)) W H) W H) W k = 99 := fun k hk => by
    rw [gF_grid hk]; cases b k <;> simp
  refine ⟨?_, ?_⟩
  · rw [spdL_bTo, gridI_w _ _ _ hH0, gridI_length]
    show (List.range (W * H)).map (spdB W H (gF (gridI (gf (bTo b (W * H)) W H) W H) W)) = (List.range (W * H)).map b
    apply List.map_congr_left
    intro k hk
    have hk' : k < W * H := by simpa using hk
    rw [spdB, spd_own hz k (by omega)]
    show decide (gF _ W k < 50) = b k
    rw [gF_grid hk']
    cases b k <;> simp
  · rw [spdZ, gridI_w _ _ _ hH0, gridI_length, spd_own hz _ (Nat.le_refl _)]
/-- By the table. -/
theorem own_ord {b : Nat → Bool} {W H : Nat} (hH0 : 0 < H) : ordL (gridI (gf (bTo b (W * H)) W H) W H) = bTo b (W * H) := by
  rw [ordL, gridI_w _ _ _ hH0, gridI_length]
  show (List.range (W * H)).map (ordBit (gridI (gf (bTo b (W * H)) W H) W H) W) = (List.range (W * H)).map b
  apply List.map_congr_left
  intro k hk
  have hk' : k < W * H := by simpa using hk
  obtain ⟨hx, hy, e⟩ := xy_of hk'
  have h1 : k / W < (gridI (gf (bTo b (W * H)) W H) W H).length := by rw [gridI_length]; exact hy
  have h2 : k % W < (gridI (gf (bTo b (W * H)) W H) W H)[k / W].length := by rw [grid_get, rowI_length]; exact hx
  have h3 := ordBit_at (W := W) hx h1 h2
  rw [e] at h3
  show ordBit (gridI (gf (bTo b (W * H)) W H) W H) W k = b k
  rw [h3]
  simp only [grid_get, rowI_get, gf]
  rw [bit_bTo hx hy, e]
  have ob := ordT_bd (k / W % 4 * 4 + k % W % 4)
  have hob : ordT (k / W % 4 * 4 + k % W % 4) = ordAt (k % W) (k / W) := rfl
  rw [hob] at ob
  cases b k
  · simp; omega
  · simp; omega
/-- What the mean error tells is what is lost. -/
theorem mean_spd {rows : List (List Int)} (hok : greyOk rows = true) : meanOk rows (rowsTo (spdL rows) (tabW rows) rows.length) = true ∧ meanV rows (rowsTo (spdL rows) (tabW rows) rows.length) = spdZ rows := by
  obtain ⟨s1, s2, s3, s4⟩ := tab_sizes hok
  have hm : meanOk rows (rowsTo (spdL rows) (tabW rows) rows.length) = true := by
    simp [meanOk, hok, told_ok s3 s4 s1 s2, told_w s1, rowsTo_length]
  refine ⟨hm, ?_⟩
  rw [meanV, if_pos hm, spdZ, spd_lost, spdL_bTo, greyOf_told s1 (by simp [bTo])]
  have h1 : gsum rows rows.length = sI (gF rows (tabW rows)) (rows.length * tabW rows) :=
    gsum_sI (fun y h => tab_row hok y h) (fun y hy x hx => (gF_at (by rw [tab_row hok y hy] at hx; exact hx) hy hx).symm) _ (Nat.le_refl _)
  generalize tabW rows = W at *
  generalize rows.length = H at *
  generalize gF rows W = G at *
  have h2 : gsum (gridI (gf (bTo (spdB W H G) (W * H)) W H) W H) (gridI (gf (bTo (spdB W H G) (W * H)) W H) W H).length = sI (fun i => if spdB W H G i then 0 else 99) (H * W) := by
    have := gsum_sI (O := fun i => if spdB W H G i then 0 else 99) (rows := gridI (gf (bTo (spdB W H G) (W * H)) W H) W H) (W := W) (fun y h => by rw [grid_get, rowI_length]) (fun y hy x hx => by
      have hy' : y < H := by rw [gridI_length] at hy; exact hy
      have hx' : x < W := by rw [grid_get, rowI_length] at hx; exact hx
      simp only [grid_get, rowI_get, gf]
      rw [bit_bTo hx' hy']) H (by rw [gridI_length]; exact Nat.le_refl _)
    rw [gridI_length]; exact this
  rw [h1, h2, wh_sI, Nat.mul_comm H W]
end Go.Proofs.Ytdbelajgndclfaa

namespace Go.Proofs.Ytdbelajgndclfaa
open Go.RowKit

/-- A call has returned a picture of the law's own, a number and yes. -/
def SpYes (w : World) (W H : Nat) (L : List Bool) (z : Int) (e : Ending) (w' : World) : Prop :=
  ∃ A c, e = .returned (.tuple #[.agg #[.slice A H c], .int .i64 z, .bool true]) ∧ w'.ownsRow w.heap.size 9 1 (.slice A H c) H (strs (rowsTo L W H)) ∧ Below w.heap.size w w'
theorem yes_spd {A : Option Addr} {c : Nat} {rows : List (List Int)} {w : World} {W H : Nat} {L : List Bool} {z : Int} (h : MatRd w A rows) (hok : greyOk rows = true) (hW : tabW rows = W) (hH : rows.length = H) (hL : spdL rows = L) (hz : spdZ rows = z) :
    Calls Try.prog 40 #[.agg #[.slice A H c]] w (SpYes w W H L z) := by
  obtain ⟨s1, s2, s3, s4⟩ := tab_sizes hok
  have := spreadGrey_any A c rows w h (by omega) (fun i hi => by rw [tab_row hok i hi]; omega)
  rw [if_pos hok, if_pos hok, hok, hL, hz, hW, hH] at this
  exact this.mono fun e w' ⟨A, c, h1, h2, h3⟩ => by
    rw [rowsTo_length] at h1 h2
    exact ⟨A, c, h1, h2, h3⟩
theorem yes_ord {A : Option Addr} {c : Nat} {rows : List (List Int)} {w : World} {W H : Nat} {L : List Bool} (h : MatRd w A rows) (hok : greyOk rows = true) (hW : tabW rows = W) (hH : rows.length = H) (hL : ordL rows = L) :
    Calls Try.prog 36 #[.agg #[.slice A H c]] w (PicYes w W H L) := by
  obtain ⟨s1, s2, s3, s4⟩ := tab_sizes hok
  have := ordered_any A c rows w h (by omega) (fun i hi => by rw [tab_row hok i hi]; omega)
  rw [if_pos hok, hok, hL, hW, hH] at this
  exact this.mono fun _ _ => PicYes.of
theorem yes_grey {A : Option Addr} {c W H : Nat} {L : List Bool} {w : World} (h : Rd w A (strs (rowsTo L W H))) (hL : L.length = W * H) (hW0 : 0 < W) (hW : W ≤ 16) (hH0 : 0 < H) (hH : H ≤ 16) :
    Calls Try.prog 29 #[.agg #[.slice A H c]] w fun e w' => ∃ A c, e = .returned (.tuple #[.agg #[.slice A H c], .bool true]) ∧ MatRd w' A (gridI (gf L W H) W H) ∧ Below w.heap.size w w' := by
  have := greyOf_any A c (rowsTo L W H) w h (by rw [rowsTo_length]; omega)
  rw [told_ok hW0 hW hH0 hH, if_pos rfl, greyOf_told hH0 hL, rowsTo_length] at this
  exact this.mono fun e w' ⟨A, c, vs, h1, h2, h3⟩ => by
    rw [gridI_length] at h1
    exact ⟨A, c, h1, h2.rd, h3⟩
theorem yes_mean {A B : Option Addr} {c d : Nat} {rows : List (List Int)} {w : World} {W H : Nat} {L : List Bool} {z : Int} (h : MatRd w A rows) (hok : greyOk rows = true) (hW : tabW rows = W) (hH : rows.length = H) (hL : spdL rows = L) (hz : spdZ rows = z) (h2 : Rd w B (strs (rowsTo L W H))) :
    Calls Try.prog 38 #[.agg #[.slice A H c], .agg #[.slice B H d]] w fun e w' => e = .returned (.tuple #[.int .i64 z, .bool true]) ∧ Below w.heap.size w w' := by
  obtain ⟨s1, s2, s3, s4⟩ := tab_sizes hok
  subst hW hH hL hz
  obtain ⟨m1, m2⟩ := mean_spd hok
  have := mean_any A c rows B d (rowsTo (spdL rows) (tabW rows) rows.length) w h (by omega) (fun i hi => by rw [tab_row hok i hi]; omega) h2 (by rw [rowsTo_length]; omega)
  rw [m1, m2, rowsTo_length] at this
  exact this
set_option maxRecDepth 100000 in
set_option maxHeartbeats 1000000 in
theorem validPic_any (A : Option Addr) (c : Nat) (rows : List ByteArray) (w : World) (h : Rd w A (strs rows)) (hp : picOk rows = true) (hn : rows.length ≤ 1000000000) :
    Calls Try.prog 42 #[.agg #[.slice A rows.length c]] w fun e w' => e = .returned (.bool true) ∧ Below w.heap.size w w' := by
  have B1 : Below w.heap.size w (w.alloc (.cells #[.slice A rows.length c] 26)) := Ext.more (Ext.refl _) _
  have IM := Lib.hid (imageOf_any A c rows _ (h.ext B1) hn)
  have IH := Lib.hid (IM.out.mono (fun e w' hI => (show (∃ p g, e = .returned (.tuple #[.pointer (some ⟨p, 0, none⟩), .bool true]) ∧ Img w' p g (picW rows) rows.length (picBits rows)) ∧ Below _ _ w' from ⟨(hI.yes hp).elim fun p h => h.elim fun g h => ⟨p, g, h.1, h.2.1⟩, hI.ext⟩)))
  clear h hp IM
  go_enter Try.func42, Try.ntmps42
  go_wp2_with fail
  refine IH.out.mono ?_
  rintro e w1 ⟨⟨p, g, rfl, hm⟩, hb⟩
  go_wp2_with fail
  go_ret
  exact ⟨rfl, Ext.then_ B1 hb⟩
theorem yes_valid {A : Option Addr} {c W H : Nat} {L : List Bool} {w : World} (h : Rd w A (strs (rowsTo L W H))) (hW0 : 0 < W) (hW : W ≤ 16) (hH0 : 0 < H) (hH : H ≤ 16) :
    Calls Try.prog 42 #[.agg #[.slice A H c]] w fun e w' => e = .returned (.bool true) ∧ Below w.heap.size w w' := by
  have := validPic_any A c (rowsTo L W H) w h (told_ok hW0 hW hH0 hH) (by rw [rowsTo_length]; omega)
  rwa [rowsTo_length] at this
theorem black_at {A : Option Addr} {c W H : Nat} {b : Nat → Bool} {x y : Nat} {w : World} (h : Rd w A (strs (rowsTo (bTo b (W * H)) W H))) (hW0 : 0 < W) (hW : W ≤ 16) (hH0 : 0 < H) (hH : H ≤ 16) (hx : x < W) (hy : y < H) :
    Calls Try.prog 20 #[.agg #[.slice A H c], .int .i64 x, .int .i64 y] w fun e w' => e = .returned (.bool (b (y * W + x))) ∧ Below w.heap.size w w' := by
  have hL : (bTo b (W * H)).length = W * H := by simp [bTo]
  have := blackL_any A c (rowsTo (bTo b (W * H)) W H) x y w h (told_ok hW0 hW hH0 hH)
  rw [told_bits hH0 hL, told_w hH0, rowsTo_length, bit_bTo hx hy] at this
  exact this

set_option maxRecDepth 100000 in
set_option maxHeartbeats 4000000 in
theorem walkHalftones (w : World) (A : Option Addr) (n c : Nat) (l : List Int) (hl : BytesAt w A n l) (hn : n ≤ maxLen) (B : Option Addr) (m d : Nat) (l2 : List Int) (_ : BytesAt w B m l2) (hm : m ≤ maxLen) :
    Calls Try.prog 10 #[.slice A n c, .slice B m d] w fun e w' => e = .returned (.bool true) ∧ Below w.heap.size w w' := by
  have LO := Lib.hid (long_any A B n c m d hn hm w)
  cases hlong : (decide (48 < n) || decide (48 < m))
  case true =>
    rw [hlong] at LO
    clear hl hn hm hlong
    go_enter Try.func10, Try.ntmps10
    go_wp2_with (go_at_call 15; refine LO.out.mono ?_; rintro e w' ⟨rfl, rfl⟩)
    go_ret
    exact ⟨rfl, Ext.refl _⟩
  rw [hlong] at LO
  have RG := Lib.hid (r8Grey_any A n c l w hl hn)
  clear hl hn hm hlong
  go_enter Try.func10, Try.ntmps10
  go_wp2_with (go_at_call 15; refine LO.out.mono ?_; rintro e w' ⟨rfl, rfl⟩)
  refine RG.out.mono ?_
  rintro e w1 ⟨A1, c1, g, rfl, hok, M1, hb1⟩
  clear RG LO
  obtain ⟨s1, s2, s3, s4⟩ := tab_sizes hok
  obtain ⟨W, hW⟩ : ∃ W, tabW g = W := ⟨_, rfl⟩
  obtain ⟨H, hH⟩ : ∃ H, g.length = H := ⟨_, rfl⟩
  obtain ⟨G, hG⟩ : ∃ G, gF g W = G := ⟨_, rfl⟩
  obtain ⟨bf, hbf⟩ : ∃ bf, spdB W H G = bf := ⟨_, rfl⟩
  obtain ⟨of, hof⟩ : ∃ of, ordBit g W = of := ⟨_, rfl⟩
  obtain ⟨L, hL⟩ : ∃ L, bTo bf (W * H) = L := ⟨_, rfl⟩
  obtain ⟨LO, hLO⟩ : ∃ LO, bTo of (W * H) = LO := ⟨_, rfl⟩
  obtain ⟨z, hz⟩ : ∃ z, spdZ g = z := ⟨_, rfl⟩
  rw [hW] at s3 s4
  rw [hH] at s1 s2
  have eL : spdL g = L := by rw [spdL_bTo, hW, hH, hG, hbf, hL]
  have eLO : ordL g = LO := by rw [ordL, hW, hH, hof, hLO]
  have LST : Hid (sI G (W * H) = 99 * (whN bf (W * H) : Int) + z) := by
    have := spd_lost (W := W) (H := H) (G := G)
    rw [hbf] at this
    rw [Hid, ← hz, spdZ, hW, hH, hG, this]; omega
  have hGb : ∀ i, i < W * H → 0 ≤ G i ∧ G i ≤ 99 := by rw [← hG, ← hH]; exact gF_bd hok hW
  have GB := Lib.hid hGb
  have YS := Lib.hid (fun A c V (h : MatRd V A g) => yes_spd (c := c) h hok hW hH eL hz)
  have YM := Lib.hid (fun A c B d V (h : MatRd V A g) (h2 : Rd V B (strs (rowsTo L W H))) => yes_mean (c := c) (d := d) h hok hW hH eL hz h2)
  have YO := Lib.hid (fun A c V (h : MatRd V A g) => yes_ord (c := c) h hok hW hH eLO)
  have YV := Lib.hid (fun A c V (h : Rd V A (strs (rowsTo LO W H))) => yes_valid (c := c) h s3 s4 s1 s2)
  have lL : L.length = W * H := by rw [← hL]; simp [bTo]
  have YG := Lib.hid (fun A c V (h : Rd V A (strs (rowsTo L W H))) => yes_grey (c := c) h lL s3 s4 s1 s2)
  have YS2 := Lib.hid (fun A c V (h : MatRd V A (gridI (gf L W H) W H)) => (show Calls Try.prog 40 #[.agg #[.slice A H c]] V (SpYes V W H L 0) from yes_spd (c := c) h (gridI_ok s3 s4 s1 s2) (gridI_w _ _ _ s1) (gridI_length _ _ _) (by rw [← hL]; exact (own_spd s1).1) (by rw [← hL]; exact (own_spd s1).2)))
  have YO2 := Lib.hid (fun A c V (h : MatRd V A (gridI (gf L W H) W H)) => (show Calls Try.prog 36 #[.agg #[.slice A H c]] V (PicYes V W H L) from yes_ord (c := c) h (gridI_ok s3 s4 s1 s2) (gridI_w _ _ _ s1) (gridI_length _ _ _) (by rw [← hL]; exact own_ord s1)))
  have SM := Lib.hid (fun (A B : Option Addr) (c d : Nat) (V : World) (h1 : Rd V A (strs (rowsTo L W H))) (h2 : Rd V B (strs (rowsTo L W H))) => same_told (c := c) (d := d) h1 h2 s2)
  have BP := Lib.hid (fun A c x y (hx : x < W) (hy : y < H) V (h : Rd V A (strs (rowsTo L W H))) => (show Calls Try.prog 20 #[.agg #[.slice A H c], .int .i64 x, .int .i64 y] V fun e w' => e = .returned (.bool (bf (y * W + x))) ∧ Below V.heap.size V w' from black_at (c := c) (by rw [hL]; exact h) s3 s4 s1 s2 hx hy))
  have BO := Lib.hid (fun A c x y (hx : x < W) (hy : y < H) V (h : Rd V A (strs (rowsTo LO W H))) => (show Calls Try.prog 20 #[.agg #[.slice A H c], .int .i64 x, .int .i64 y] V fun e w' => e = .returned (.bool (of (y * W + x))) ∧ Below V.heap.size V w' from black_at (c := c) (by rw [hLO]; exact h) s3 s4 s1 s2 hx hy))
  have hrow : ∀ y (hy : y < g.length), g[y].length = W := fun y hy => by rw [← hW]; exact tab_row hok y hy
  have NUM := Lib.hid (fun y x (hy : y < H) (hx : x < W) => (show ∃ (hy' : y < g.length) (hx' : x < g[y].length), g[y][x] = G (y * W + x) ∧ of (y * W + x) = decide (16 * g[y][x] + 8 < 100 * ordAt x y + 50) from by
    have hy' : y < g.length := by rw [hH]; exact hy
    have hx' : x < g[y].length := by rw [hrow y hy']; exact hx
    refine ⟨hy', hx', ?_, ?_⟩
    · rw [← hG]; exact (gF_at hx hy' hx').symm
    · rw [← hof]; exact ordBit_at hx hy' hx'))
  have GL : Hid (g.length = H) := hH
  have GR := Lib.hid hrow
  clear hok hW hH hG hbf hof hL hLO hz eL eLO hGb lL hrow
  have B1 := Ext.more hb1 (.cells #[.slice A1 H c1] 39)
  have T5 := Blk.made w1 39 #[.slice A1 H c1]
  replace M1 := M1.ext (Ext.more (Ext.refl _) (.cells #[.slice A1 H c1] 39))
  clear hb1
  simp only [GL.out]
  go_wp2_with fail
  refine (YS.out _ _ _ M1).mono ?_
  rintro e w2 ⟨A2, c2, rfl, own2, hb⟩
  replace B1 := Ext.more (Ext.then_ B1 hb) (.cells #[.slice A2 H c2] 26)
  replace T5 := (T5.under hb T5.lt).more (.cells #[.slice A2 H c2] 26)
  replace M1 := M1.ext (Ext.more hb (.cells #[.slice A2 H c2] 26))
  have T6 := Blk.made w2 26 #[.slice A2 H c2]
  replace own2 := own2.alloc (.cells #[.slice A2 H c2] 26)
  clear hb
  have k5 := T5.cell 0
  simp at k5
  go_wp2_with fail
  refine (YM.out _ _ _ _ _ M1 (Rd.of_own own2)).mono ?_
  rintro e w3 ⟨rfl, hb⟩
  replace B1 := Ext.then_ B1 hb
  replace T5 := T5.under hb T5.lt
  replace T6 := T6.under hb T6.lt
  replace M1 := M1.ext hb
  replace own2 := own_ext hb own2
  clear hb k5
  have k5 := T5.cell 0
  simp at k5
  go_wp2_with fail
  refine (YO.out _ _ _ M1).mono ?_
  rintro e w4 ⟨A3, c3, rfl, own3, hb⟩
  replace B1 := Ext.more (Ext.then_ B1 hb) (.cells #[.slice A3 H c3] 26)
  replace T5 := (T5.under hb T5.lt).more (.cells #[.slice A3 H c3] 26)
  replace T6 := (T6.under hb T6.lt).more (.cells #[.slice A3 H c3] 26)
  replace M1 := M1.ext (Ext.more hb (.cells #[.slice A3 H c3] 26))
  replace own2 := (own_ext hb own2).alloc (.cells #[.slice A3 H c3] 26)
  have T11 := Blk.made w4 26 #[.slice A3 H c3]
  replace own3 := own3.alloc (.cells #[.slice A3 H c3] 26)
  have TT := Blk.made (w4.alloc (.cells #[.slice A3 H c3] 26)) 2 ordC
  replace B1 := Ext.more B1 (.cells ordC 2)
  replace T5 := T5.more (.cells ordC 2)
  replace T6 := T6.more (.cells ordC 2)
  replace T11 := T11.more (.cells ordC 2)
  replace M1 := M1.ext (Ext.more (Ext.refl _) (.cells ordC 2))
  replace own2 := own2.alloc (.cells ordC 2)
  replace own3 := own3.alloc (.cells ordC 2)
  clear hb k5
  simp only [World.size_alloc] at TT
  go_upto_region 8 with fail
  unfold ordC at B1 T5 T6 T11 TT M1 own2 own3
  generalize (w4.alloc (.cells #[.slice A3 H c3] 26)).alloc (.cells #[.int .i64 0, .int .i64 8, .int .i64 2, .int .i64 10, .int .i64 12, .int .i64 4, .int .i64 14, .int .i64 6, .int .i64 3, .int .i64 11, .int .i64 1, .int .i64 9, .int .i64 15, .int .i64 7, .int .i64 13, .int .i64 5] 2) = V4 at *
  have TT : Blk V4 (w4.heap.size + 1) 2 ordC := TT
  have k5 := T5.cell 0
  have k6 := T6.cell 0
  have k11 := T11.cell 0
  simp at k5 k6 k11
  have t0 : ((H : Int) != (H : Int)) = false := by simp
  have t1 : (z != z) = false := by simp
  have VAL := Lib.hid (YV.out _ c3 _ (Rd.of_own own3))
  go_wp2_with (go_at_call 42; go_loud (refine VAL.out.mono ?_; rintro e w5 ⟨rfl, hb⟩; replace B1 := Ext.then_ B1 hb; replace T5 := T5.under hb T5.lt; replace T6 := T6.under hb T6.lt; replace T11 := T11.under hb T11.lt; replace TT := TT.under hb TT.lt; replace M1 := M1.ext hb; replace own2 := own_ext hb own2; replace own3 := own_ext hb own3; clear hb k5 k6 k11; have k5 := T5.cell 0; have k6 := T6.cell 0; simp at k5 k6))
  clear VAL k6
  obtain ⟨gA, rfl, hgA, hrows⟩ := M1 (by rw [GL.out]; exact s1)
  have HR := Lib.hid hrows
  clear hrows
  have WH : W * H ≤ 256 := Nat.le_trans (Nat.mul_le_mul s4 s2) (by decide)
  go_loopw [14, 15, 16, 17] (fun s wh i _ wr => ∃ y : Nat, y ≤ H ∧ i = .int .i64 y ∧ s = .int .i64 (sI G (y * W)) ∧ wh = .int .i64 (whN bf (y * W)) ∧ Below w5.heap.size w5 wr) (fun _ _ i _ _ => H - (intOf i).toNat)
  case atStart => exact ⟨0, Nat.zero_le _, rfl, by simp [sI], by simp [whN], Ext.refl _⟩
  case round =>
    obtain ⟨y, hy, rfl, rfl, rfl, hb⟩ := hrel
    have k5r := (hb.cell (p := ⟨w1.heap.size, 0, none⟩) T5.lt).trans k5
    by_cases hlt : y < H
    · obtain ⟨wo, rfl⟩ : ∃ wo : World, wo = wr := ⟨_, rfl⟩
      obtain ⟨Ay, cy, r1, r2⟩ := HR.out y (by rw [GL.out]; exact hlt)
      have hlen := GR.out y (by rw [GL.out]; exact hlt)
      obtain ⟨gr, rfl, hgr, hcr⟩ := r2 (by simp [ints]; omega)
      rw [hlen] at r1
      have HC := Lib.hid hcr
      clear hcr r2
      have i0 : (0 : Int) ≤ (y : Int) := by omega
      have i1 : (y : Int) < (H : Int) := by omega
      have SUCC : Hid ((y + 1) * W = y * W + W) := Nat.succ_mul _ _
      have YB : y * W + W ≤ W * H := by rw [Nat.mul_comm W H, ← Nat.succ_mul]; exact Nat.mul_le_mul_right _ hlt
      go_wp2_with fail
      go_loopw [14, 15, 17] (fun s wh i wr => ∃ x : Nat, x ≤ W ∧ i = .int .i64 x ∧ s = .int .i64 (sI G (y * W + x)) ∧ wh = .int .i64 (whN bf (y * W + x)) ∧ Below w5.heap.size w5 wr) (fun _ _ i _ => W - (intOf i).toNat)
      case atStart => exact ⟨0, Nat.zero_le _, rfl, rfl, rfl, hb⟩
      case round =>
        obtain ⟨x, hx, rfl, rfl, rfl, hb2⟩ := hrel
        clear k5r
        have k5r := (hb2.cell (p := ⟨w1.heap.size, 0, none⟩) T5.lt).trans k5
        have r1r := (hb2.cell (p := ⟨gA, y, none⟩) hgA).trans r1
        by_cases hxl : x < W
        · obtain ⟨hy', hx', n1, n2⟩ := NUM.out y x hlt hxl
          have r0 := HC.out x (by simpa [ints] using hx')
          have r0v : w5.cell? ⟨gr, x, none⟩ = some (.int .i64 (g[y][x])) := by rw [r0]; simp [ints]
          have hv := GB.out (y * W + x) (by omega)
          have SB := sI_bd GB.out (y * W + x) (by omega)
          have WB := whN_le bf (y * W + x)
          have ob := ordT_bd (y % 4 * 4 + x % 4)
          have TB := TT.cell (y % 4 * 4 + x % 4)
          rw [ordC_get _ (by omega), show ordT (y % 4 * 4 + x % 4) = ordAt x y from rfl] at TB
          rw [show ordT (y % 4 * 4 + x % 4) = ordAt x y from rfl] at ob
          rw [← n1] at hv
          have SN : IntKind.i64.wrap (sI G (y * W + x) + g[y][x]) = sI G (y * W + (x + 1)) := by rw [n1, show y * W + (x + 1) = y * W + x + 1 from rfl, sI]; exact IntWalk.i64_in _ (by rw [← n1]; omega)
          have WN : Hid (whN bf (y * W + (x + 1)) = whN bf (y * W + x) + (if bf (y * W + x) then 0 else 1)) := rfl
          generalize hsn : sI G (y * W + (x + 1)) = sn at *
          have HSN := Lib.hid hsn
          clear hsn
          generalize sI G (y * W + x) = s0 at *
          generalize hwn : whN bf (y * W + (x + 1)) = wn at *
          have HWN := Lib.hid hwn
          clear hwn
          generalize whN bf (y * W + x) = wh0 at *
          have BPi := Lib.hid (BP.out A2 c2 x y hxl hlt wr (Rd.of_own (own_ext hb2 own2)))
          have n2h := Lib.hid n2
          clear r0 n1 n2
          generalize g[y][x] = v at *
          generalize ordAt x y = o at *
          have k6r : wr.cell? ⟨w2.heap.size, 0, none⟩ = some (.slice A2 H c2) := by
            have := T6.cell 0
            simp at this
            exact (hb2.cell (p := ⟨w2.heap.size, 0, none⟩) T6.lt).trans this
          have r0r := (hb2.cell (p := ⟨gr, x, none⟩) hgr).trans r0v
          have i2 : (0 : Int) ≤ (x : Int) := by omega
          have i3 : (x : Int) < (W : Int) := by omega
          have z6 := T6.lt
          go_upto_if 108 with (go_at_call 20; refine BPi.out.mono ?_; rintro e wa ⟨rfl, hba⟩)
          go_cut [15] (fun s15 wx => s15 = .int .i64 wn ∧ wx = wa)
          case first =>
            cases hbk : bf (y * W + x)
            · have e1 : IntKind.i64.wrap ((wh0 : Int) + 1) = (wn : Int) := by
                rw [WN.out, hbk]; simp; exact IntWalk.i64_in _ (by omega)
              go_wp2_with fail
              go_meet
              exact ⟨rfl, rfl⟩
            · have e1 : wh0 = wn := by rw [WN.out, hbk]; simp
              subst e1
              go_wp2_with fail
              go_meet
              exact ⟨rfl, rfl⟩
          case rest =>
            obtain ⟨rfl, rfl⟩ := hcut
            have hb3 := Ext.then_ hb2 hba
            clear hba k6r k5r r1r r0r BPi
            go_upto_region 21 with fail
            have m1 : (y : Int).tmod 4 = (y : Int) % 4 := Int.tmod_eq_emod_of_nonneg (by omega)
            have m3 : (x : Int).tmod 4 = (x : Int) % 4 := Int.tmod_eq_emod_of_nonneg (by omega)
            have m2 : IntKind.i64.wrap ((y : Int) % 4 * 4) = (y : Int) % 4 * 4 := IntWalk.i64_in _ (by omega)
            have m4 : IntKind.i64.wrap ((y : Int) % 4 * 4 + (x : Int) % 4) = (y : Int) % 4 * 4 + (x : Int) % 4 := IntWalk.i64_in _ (by omega)
            have i4 : (0 : Int) ≤ (y : Int) % 4 * 4 + (x : Int) % 4 := by omega
            have i5 : (y : Int) % 4 * 4 + (x : Int) % 4 < 16 := by omega
            have i6 : ((y : Int) % 4 * 4 + (x : Int) % 4).toNat = y % 4 * 4 + x % 4 := by omega
            have j0 : IntKind.i64.wrap (16 * v) = 16 * v := IntWalk.i64_in _ (by omega)
            have j1 : IntKind.i64.wrap (16 * v + 8) = 16 * v + 8 := IntWalk.i64_in _ (by omega)
            have j2 : IntKind.i64.wrap (100 * o) = 100 * o := IntWalk.i64_in _ (by omega)
            have j3 : IntKind.i64.wrap (100 * o + 50) = 100 * o + 50 := IntWalk.i64_in _ (by omega)
            obtain ⟨q, hq⟩ : ∃ q, decide (16 * v + 8 < 100 * o + 50) = q := ⟨_, rfl⟩
            rw [hq] at n2h
            have qq : (q != q) = false := by simp
            refine wp_region_held_quiet (fun V => Below w5.heap.size w5 V) (by kernel_rfl) (by kernel_rfl) hb3.drew ?_
            have ne : Nonempty (HeldW (fun V => Below w5.heap.size w5 V)) := ⟨⟨w5, Ext.refl _⟩⟩
            have kk5 : ∀ i : HeldW (fun V => Below w5.heap.size w5 V), i.w.cell? ⟨w1.heap.size, 0, none⟩ = some (.slice (some ⟨gA, 0, none⟩) H c1) := fun i => (i.h.cell (p := ⟨w1.heap.size, 0, none⟩) T5.lt).trans k5
            have kk11 : ∀ i : HeldW (fun V => Below w5.heap.size w5 V), i.w.cell? ⟨w4.heap.size, 0, none⟩ = some (.slice A3 H c3) := fun i => (i.h.cell (p := ⟨w4.heap.size, 0, none⟩) T11.lt).trans (by have := T11.cell 0; simp at this; exact this)
            have kkA : ∀ i : HeldW (fun V => Below w5.heap.size w5 V), i.w.cell? ⟨gA, y, none⟩ = some (.slice (some ⟨gr, 0, none⟩) W cy) := fun i => (i.h.cell (p := ⟨gA, y, none⟩) hgA).trans r1
            have kkr : ∀ i : HeldW (fun V => Below w5.heap.size w5 V), i.w.cell? ⟨gr, x, none⟩ = some (.int .i64 v) := fun i => (i.h.cell (p := ⟨gr, x, none⟩) hgr).trans r0v
            have kkt : ∀ i : HeldW (fun V => Below w5.heap.size w5 V), i.w.cell? ⟨w4.heap.size + 1, y % 4 * 4 + x % 4, none⟩ = some (.int .i64 o) := fun i => (i.h.cell (p := ⟨w4.heap.size + 1, y % 4 * 4 + x % 4, none⟩) TT.lt).trans TB
            have BOi := Lib.hid (fun i : HeldW (fun V => Below w5.heap.size w5 V) => BO.out A3 c3 x y hxl hlt i.w (Rd.of_own (own_ext i.h own3)))
            rw [n2h.out] at BOi
            repeat (go_big_quiet_step ((go_at_call 20; exact Calls.above_of _ (BOi.out _))))
            refine wpQuiet_nil ?_
            intro _ hw'
            obtain ⟨⟨wb, hb4⟩, rfl⟩ := hw'
            clear ne kk5 kk11 kkA kkr kkt BOi TB
            go_wp2_with fail
            go_roundw
            case rel => exact ⟨x + 1, by omega, by go_num, by rw [HSN.out], by rw [HWN.out], hb4⟩
            case measure => simp [intOf]; omega
        · obtain rfl : x = W := by omega
          go_wp2_with fail
          go_roundw
          case rel => exact ⟨y + 1, by omega, by go_num, by rw [SUCC.out], by rw [SUCC.out], hb2⟩
          case measure => simp [intOf]; omega
    · obtain rfl : y = H := by omega
      have k6r : wr.cell? ⟨w2.heap.size, 0, none⟩ = some (.slice A2 y c2) := by
        have := T6.cell 0
        simp at this
        exact (hb.cell (p := ⟨w2.heap.size, 0, none⟩) T6.lt).trans this
      have L2 := LST.out
      have WB := whN_le bf (W * y)
      have SB := sI_bd GB.out (W * y) (Nat.le_refl _)
      rw [Nat.mul_comm y W]
      generalize sI G (W * y) = S at *
      generalize whN bf (W * y) = N at *
      have j0 : IntKind.i64.wrap (99 * (N : Int)) = 99 * (N : Int) := IntWalk.i64_in _ (by omega)
      have j1 : IntKind.i64.wrap (99 * (N : Int) + z) = S := by rw [L2]; exact IntWalk.i64_in _ (by omega)
      have OW := Lib.hid (fun V (hV : Below w5.heap.size w5 V) => Rd.of_own (own_ext hV own2))
      have z6 := T6.lt
      have z0 := hb.size
      clear L2 LST YS YM YO YV BP BO NUM GB GR HR TT T5 T11 own3 M1
      go_wp2_with fail
      refine (YG.out _ _ _ (OW.out _ hb)).mono ?_
      rintro e w6 ⟨A4, c4, rfl, M4, hbc⟩
      have hb6 := Ext.more (Ext.then_ hb hbc) (.cells #[.slice A4 y c4] 39)
      have T18 := Blk.made w6 39 #[.slice A4 y c4]
      replace M4 := M4.ext (Ext.more (Ext.refl _) (.cells #[.slice A4 y c4] 39))
      clear hbc k6r YG
      go_wp2_with fail
      refine (YS2.out _ _ _ M4).mono ?_
      rintro e w7 ⟨A5, c5, rfl, own5, hbc⟩
      replace hb6 := Ext.more (Ext.then_ hb6 hbc) (.cells #[.slice A5 y c5] 26)
      replace T18 := (T18.under hbc T18.lt).more (.cells #[.slice A5 y c5] 26)
      replace M4 := M4.ext (Ext.more hbc (.cells #[.slice A5 y c5] 26))
      have T20 := Blk.made w7 26 #[.slice A5 y c5]
      replace own5 := own5.alloc (.cells #[.slice A5 y c5] 26)
      clear hbc YS2
      have k18 := T18.cell 0
      simp at k18
      go_wp2_with fail
      refine (YO2.out _ _ _ M4).mono ?_
      rintro e w8 ⟨A6, c6, rfl, own6, hbc⟩
      replace hb6 := Ext.more (Ext.then_ hb6 hbc) (.cells #[.slice A6 y c6] 26)
      replace T20 := (T20.under hbc T20.lt).more (.cells #[.slice A6 y c6] 26)
      replace own5 := (own_ext hbc own5).alloc (.cells #[.slice A6 y c6] 26)
      have T23 := Blk.made w8 26 #[.slice A6 y c6]
      replace own6 := own6.alloc (.cells #[.slice A6 y c6] 26)
      clear hbc YO2 k18 M4 T18
      have K6 := Lib.hid (fun V (hV : Below w5.heap.size w5 V) => (show V.cell? ⟨w2.heap.size, 0, none⟩ = some (.slice A2 y c2) from by
        have := T6.cell 0
        simp at this
        exact (hV.cell (p := ⟨w2.heap.size, 0, none⟩) T6.lt).trans this))
      have k20 := T20.cell 0
      simp at k20
      have k6 := K6.out _ hb6
      have ss : (S == S) = true := by simp
      have t23l := T23.lt
      go_upto_region 26 with fail
      generalize w8.alloc (.cells #[.slice A6 y c6] 26) = V8 at *
      have SM1 := Lib.hid (SM.out A5 A2 c5 c2 V8 (Rd.of_own own5) (OW.out _ hb6))
      have SM2 := Lib.hid (fun V (hV : Below V8.heap.size V8 V) => SM.out A6 A2 c6 c2 V (Rd.of_own (own_ext hV own6)) (OW.out _ (Ext.then_ hb6 hV)))
      have K23 := Lib.hid (fun V (hV : Below V8.heap.size V8 V) => (show V.cell? ⟨w8.heap.size, 0, none⟩ = some (.slice A6 y c6) from by
        have := T23.cell 0
        simp at this
        exact (hV.cell (p := ⟨w8.heap.size, 0, none⟩) T23.lt).trans this))
      go_wp2_with (first
        | (go_at_call_of 19 (Value.agg #[.slice A5 y c5]); refine SM1.out.mono ?_; rintro e w9 ⟨rfl, hb9⟩; have k23 := K23.out w9 hb9; have k6 := K6.out w9 (Ext.then_ hb6 hb9))
        | (go_at_call_of 19 (Value.agg #[.slice A6 y c6]); refine (SM2.out w9 hb9).mono ?_; rintro e w10 ⟨rfl, hb10⟩))
      go_ret
      exact ⟨rfl, Ext.then_ (Ext.then_ (Ext.then_ B1 hb6) hb9) hb10⟩
end Go.Proofs.Ytdbelajgndclfaa
