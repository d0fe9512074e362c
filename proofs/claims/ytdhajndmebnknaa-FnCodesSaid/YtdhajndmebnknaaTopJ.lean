/- The reference's eight steps, and its picture with a white edge. What lies in memory while the reference visits a part. -/
import Derived.Test.YtdhajndmebnknaaTopE
import Derived.Test.YtdhajndmebnknaaWide
import Derived.Test.YtdhajndmebnknaaTldP
import Derived.Test.YtdhajndmebnknaaTopT
namespace Go.Proofs.Ytdhajndmebnknaa
open Go.RowKit

def stepE : List (Int × Int) := [(0, -1), (-1, 0), (1, 0), (0, 1), (-1, -1), (1, -1), (-1, 1), (1, 1)]
theorem mem_stepE {p q : Int × Int} : q ∈ nbD stepE p ↔ A8 p q := by
  obtain ⟨a, b⟩ := p
  obtain ⟨c, d⟩ := q
  simp only [nbD, stepE, List.map_cons, List.map_nil, List.mem_cons, List.not_mem_nil, or_false, Prod.mk.injEq, A8, A4]
  constructor
  · rintro h; omega
  · rintro h; omega
set_option maxRecDepth 100000 in
set_option maxHeartbeats 1000000 in
theorem steps8_any (w : World) : Calls Try.prog 82 #[.bool true] w fun e w' => ∃ g c, e = .returned (.slice (some ⟨g, 0, none⟩) stepE.length c) ∧ w.heap.size ≤ g ∧ SpAt w' g stepE ∧ Below w.heap.size w w' := by
  have B1 := Ext.more (Ext.refl w) (.cells (spC stepL) 50)
  have O1 := World.ownsRow_lit (base := w.heap.size) (e := 50) (size := 2) w (spC stepL) 4 (Nat.le_refl _) (by decide) rfl
  have B2 := Ext.more B1 (.cells (spC [(-1, -1), (1, -1), (-1, 1), (1, 1)]) 50)
  have O2 := O1.alloc (.cells (spC [(-1, -1), (1, -1), (-1, 1), (1, 1)]) 50)
  have N2 := heap_alloc_new (w.alloc (.cells (spC stepL) 50)) (.cells (spC [(-1, -1), (1, -1), (-1, 1), (1, 1)]) 50)
  rw [World.size_alloc] at N2
  go_enter Try.func82, Try.ntmps82
  go_upto_region 3 with fail
  go_wp2_with (at_builtin; refine wpList_appUT spotT (by rfl) _ _ (by rfl) w.heap.size w.heap.size 4 4 (spL stepL) (by rfl) O2 ⟨w.heap.size + 1, 0, none⟩ 4 4 (spL [(-1, -1), (1, -1), (-1, 1), (1, 1)]) (by rfl) (by rfl) (World.news_of_block N2) (by simp [spL, Value.oneCell']) 8 (spL stepE) (by rfl) (by rfl) (by omega) (by simp; omega) ?_; intro g3 cap3 w3 hown3 hgrow3)
  go_ret
  exact ⟨g3, cap3, rfl, (hown3.lt g3 rfl).1, own_spots hown3 rfl, B2.grown hgrow3 (by simp; omega) (fun z hz => by have := Option.some.inj hz; omega)⟩
theorem stT_eight : StT true stepE where
  len := by decide
  near := by decide
  call V := steps8_any V

theorem padL_len (L : List Bool) (W H : Nat) : (padL L W H).length = (W + 2) * (H + 2) := by simp [padL]
def padP (L : List Bool) (W H : Nat) (i : Nat) : Bool := bit L W H (((i % (W + 2) : Nat) : Int) - 1) (((i / (W + 2) : Nat) : Int) - 1)
theorem padL_bTo (L : List Bool) (W H : Nat) : padL L W H = bTo (padP L W H) ((W + 2) * (H + 2)) := rfl
theorem padP_at (L : List Bool) {W H x y : Nat} (hx : x < W + 2) : padP L W H (y * (W + 2) + x) = bit L W H ((x : Int) - 1) ((y : Int) - 1) := by
  rw [padP, modT hx, divT hx]
set_option maxRecDepth 100000 in
set_option maxHeartbeats 2000000 in
theorem padS_any (mp : Nat) (A0 : Option Addr) (cc : Nat) (rows : List ByteArray) (L : List Bool) (W H : Nat) (w : World) (h : PicAt w mp A0 cc rows) (hok : picOk rows = true) (hL : picBits rows = L) (hWr : picW rows = W) (hHr : rows.length = H) :
    Calls Try.prog 46 #[.pointer (some ⟨mp, 0, none⟩)] w fun e w' => ∃ A c, e = .returned (.agg #[.slice A (H + 2) c]) ∧
      w'.ownsRow w.heap.size 9 1 (.slice A (H + 2) c) (H + 2) (strs (rowsTo (padL L W H) (W + 2) (H + 2))) ∧ Below w.heap.size w w' := by
  obtain ⟨s1, s2, s3, s4⟩ := picOk_sizes hok
  rw [hWr] at s3 s4
  rw [hHr] at s1 s2
  have PX := Lib.hid (fun V (hb : Below w.heap.size w V) => h.ext hb)
  have WD := Lib.hid (fun V (hV : PicAt V mp A0 cc rows) => width_any mp A0 cc rows V hV (by omega))
  have HD := Lib.hid (fun V (hV : PicAt V mp A0 cc rows) => height_any mp A0 cc rows V hV)
  have BK := Lib.hid (fun x y V (hV : PicAt V mp A0 cc rows) => black_any mp A0 cc rows x y V hV hok)
  rw [hWr] at WD
  rw [hHr] at HD
  rw [hL, hWr, hHr] at BK
  have MK := Lib.hid (fun (A : Option Addr) (c : Nat) LB V (hV : Rd V A (bools LB)) (hl : LB.length = (W + 2) * (H + 2)) => make_any A c (W + 2) (H + 2) LB V hV (by omega) (by omega) (by omega) hl)
  have PA := Lib.hid (fun x y (hx : x < W + 2) => padP_at L (W := W) (H := H) (x := x) (y := y) hx)
  have PB := Lib.hid (padL_bTo L W H)
  have PE := Lib.hid (padL_len L W H)
  have T0 := Blk.made w 28 #[.slice none 0 0]
  have B1 : Below w.heap.size w (w.alloc (.cells #[.slice none 0 0] 28)) := Ext.more (Ext.refl _) _
  have hrow0 := World.ownsRow_lit (base := w.heap.size + 1) (e := 4) (size := 1) (w.alloc (.cells #[.slice none 0 0] 28)) #[] 0 (by simp) (by decide) rfl
  rw [World.size_alloc] at hrow0
  have T1 := T0.more (.cells #[] 4)
  have B2 := Ext.more B1 (.cells #[] 4)
  clear h hok hL hWr hHr T0
  obtain ⟨V, hV⟩ : ∃ V, V = W + 2 := ⟨_, rfl⟩
  obtain ⟨G, hG⟩ : ∃ G, G = H + 2 := ⟨_, rfl⟩
  have HV : Hid ((W : Int) + 2 = (V : Int)) := by rw [Hid]; omega
  rw [← hV, ← hG] at MK PE PB
  simp only [← hV] at PA
  rw [← hV, ← hG]
  have VB : V ≤ 18 := by omega
  have GB : G ≤ 18 := by omega
  have WH : V * G ≤ 324 := Nat.le_trans (Nat.mul_le_mul VB GB) (by decide)
  generalize padP L W H = pf at *
  generalize padL L W H = PL at *
  have HVW := Lib.hid hV
  have HGH := Lib.hid hG
  clear hV hG
  go_enter Try.func46, Try.ntmps46
  go_upto_region 1 with fail
  have W1 := Lib.hid (WD.out _ (PX.out _ B1))
  go_upto_region 2 with (go_at_call 48; refine W1.out.mono ?_; rintro e w' ⟨rfl, rfl⟩)
  simp only [HV.out]
  go_wp2_with fail
  have E0 : Hid (bools (bTo pf (0 * V)) = []) := by rw [Hid, Nat.zero_mul]; rfl
  generalize (w.alloc (.cells #[.slice none 0 0] 28)).alloc (.cells #[] 4) = w0 at *
  go_loopw [4, 5, 6] (fun v i _ wr => ∃ (y g c : Nat), y ≤ G ∧ i = .int .i64 ((y : Int) - 1) ∧ v = .slice (some ⟨g, 0, none⟩) (y * V) c ∧ wr.ownsRow (w.heap.size + 1) 4 1 (.slice (some ⟨g, 0, none⟩) (y * V) c) (y * V) (bools (bTo pf (y * V))) ∧ Blk wr w.heap.size 28 #[.slice none 0 0] ∧ Below w.heap.size w wr) (fun _ i _ _ => G - (intOf i + 1).toNat)
  case atStart => exact ⟨0, _, 0, Nat.zero_le _, rfl, by rw [Nat.zero_mul], by rw [E0.out, Nat.zero_mul]; exact hrow0, T1, B2⟩
  case round =>
    obtain ⟨y, g, c, hy, rfl, rfl, hown, hT, hb⟩ := hrel
    clear hrow0 T1 B1 B2 W1
    have H1 := Lib.hid (HD.out wr (PX.out _ hb))
    by_cases hlt : y < G
    · have YB : Hid ((y + 1) * V = y * V + V) := Nat.succ_mul _ _
      have YL : Hid (y * V + V ≤ 324) := by
        rw [← YB.out]
        exact Nat.le_trans (Nat.mul_le_mul (show y + 1 ≤ 18 by omega) VB) (by decide)
      have y0 : ((y : Int) - 1) ≤ (H : Int) := by have := HGH.out; omega
      have i1 : IntKind.i64.wrap ((V : Int) - 1) = (V : Int) - 1 := IntWalk.i64_in _ (by omega)
      go_wp2_with (go_at_call 49; refine H1.out.mono ?_; rintro e w' ⟨rfl, rfl⟩)
      go_loopw [4, 6] (fun v i wr => ∃ (x g c : Nat), x ≤ V ∧ i = .int .i64 ((x : Int) - 1) ∧ v = .slice (some ⟨g, 0, none⟩) (y * V + x) c ∧ wr.ownsRow (w.heap.size + 1) 4 1 (.slice (some ⟨g, 0, none⟩) (y * V + x) c) (y * V + x) (bools (bTo pf (y * V + x))) ∧ Blk wr w.heap.size 28 #[.slice none 0 0] ∧ Below w.heap.size w wr) (fun _ i _ => V - (intOf i + 1).toNat)
      case atStart => exact ⟨0, g, c, Nat.zero_le _, rfl, rfl, hown, hT, hb⟩
      case round =>
        obtain ⟨x, g2, c2, hx, rfl, rfl, hown2, hT2, hb2⟩ := hrel
        clear hown hT hb H1
        by_cases hxl : x < V
        · have P1 := Lib.hid (BK.out ((x : Int) - 1) ((y : Int) - 1) wr (PX.out _ hb2))
          have A1 := Lib.hid (PA.out x y hxl)
          rw [← A1.out] at P1
          have BS := Lib.hid (bTo_succ pf (y * V + x))
          have x0 : ((x : Int) - 1) < (V : Int) - 1 := by omega
          have sz := hb2.size
          go_wp2_with (first
            | (go_at_call 78; refine P1.out.mono ?_; rintro e w' ⟨rfl, rfl⟩)
            | (at_builtin; refine wpList_app boolT (by rfl) _ _ (by rfl) (w.heap.size + 1) (.slice (some ⟨g2, 0, none⟩) (y * V + x) c2) (y * V + x) (bools (bTo pf (y * V + x))) (by rfl) (hown2.alloc _) wr.heap.size #[.bool _] (by rfl) (heap_alloc_new _ _) rfl (by simp [Value.oneCell']) (by have := YL.out; omega) (by have := hT2.lt; simp; omega) ?_; intro g3 cap3 w3 hown3 hgrow3 hat3 hlt3))
          have T3 := (hT2.more (.cells #[.bool (pf (y * V + x))] 4)).by_grown hgrow3 (by have := (hown2.lt g2 rfl).1; simp [Value.ownBlock]; omega)
          have B3 := (hb2.alloc sz (.cells #[.bool (pf (y * V + x))] 4)).grown hgrow3 (by simp; omega) (fun z hz => by have := (hown2.lt z hz).1; omega)
          go_roundw
          case rel =>
            refine ⟨x + 1, g3, cap3, by omega, by go_num, rfl, ?_, T3, B3⟩
            rw [show y * V + (x + 1) = y * V + x + 1 from rfl, BS.out]
            simpa [bools] using hown3
          case measure => simp [intOf]; omega
        · obtain rfl : x = V := by omega
          have j1 : ¬ ((x : Int) - 1) < (x : Int) - 1 := by omega
          go_wp2_with fail
          go_roundw
          case rel => exact ⟨y + 1, g2, c2, by omega, by go_num, by rw [YB.out], by rw [YB.out]; exact hown2, hT2, hb2⟩
          case measure => simp [intOf]; omega
    · obtain rfl : y = G := by omega
      have y0 : ¬ ((y : Int) - 1) ≤ (H : Int) := by have := HGH.out; omega
      have hc : Hid (y * V = V * y) := Nat.mul_comm _ _
      have hown' := hown
      rw [hc.out, ← PB.out] at hown'
      have M1 := Lib.hid (MK.out (some ⟨g, 0, none⟩) c PL wr (Rd.of_own hown') PE.out)
      rw [← hc.out] at M1
      have HT := Lib.hid hT
      have HB := Lib.hid hb
      clear hown hown' hT hb
      go_wp2_with (first
        | (go_at_call 49; refine H1.out.mono ?_; rintro e w' ⟨rfl, rfl⟩)
        | (go_at_call 63; refine M1.out.mono ?_; rintro e w9 ⟨A9, c9, rfl, hown9, hb9⟩
           have hres9 := HT.out.under hb9 HT.out.lt
           have c0 := hres9.cell 0
           have f0 := hres9.free 0
           simp at c0
           have cs := (hres9.store 0 (.slice A9 y c9)).cell 0
           simp at cs
           have HO := Lib.hid hown9
           have E9 := Lib.hid (Ext.then_ HB.out hb9)
           clear hown9 hb9 hres9))
      refine bodyPost_ret (v := .agg #[.slice A9 y c9]) (by simp [results, Try.results46, go_sem, cs]) rfl ⟨A9, c9, rfl, ?_, ?_⟩
      · exact own_base (ownsRow_setCell_below HO.out (a := ⟨w.heap.size, 0, none⟩) HT.out.lt _) HB.out.size
      · exact E9.out.setCell (p := ⟨w.heap.size, 0, none⟩) (Nat.le_refl _) _
end Go.Proofs.Ytdhajndmebnknaa

namespace Go.Proofs.Ytdhajndmebnknaa
open Go.RowKit

def colL (L : List Bool) (c : Bool) : List Bool := if c then L else L.map fun b => !b
theorem colL_len (L : List Bool) (c : Bool) : (colL L c).length = L.length := by cases c <;> simp [colL]
theorem okI_col {L : List Bool} {W H : Nat} (hL : L.length = W * H) (c : Bool) : okI (colL L c) W H = okC L W H c := by
  funext z
  rw [Bool.eq_iff_iff, okI_iff, okC_iff, has_iff, hasB_iff]
  show _ ↔ _ ∧ bit L W H z.1 z.2 = c
  have e : ∀ i, i < L.length → (colL L c).getD i false = (L.getD i false == c) := fun i hi => by
    cases c
    · simp [colL, List.getD_eq_getElem?_getD, List.getElem?_eq_getElem hi]
    · simp [colL]
  constructor
  · rintro ⟨x, y, rfl, hx, hy, h⟩
    have hi : y * W + x < L.length := by rw [hL]; exact pl_lt hx hy
    rw [e _ hi] at h
    refine ⟨by simp only; omega, ?_⟩
    rw [bit_in hx hy]
    simpa using h
  · obtain ⟨z1, z2⟩ := z
    rintro ⟨⟨⟨h1, h2⟩, h3, h4⟩, h⟩
    simp only at h1 h2 h3 h4 h
    obtain ⟨x, rfl⟩ : ∃ k : Nat, z1 = k := ⟨z1.toNat, by omega⟩
    obtain ⟨y, rfl⟩ : ∃ k : Nat, z2 = k := ⟨z2.toNat, by omega⟩
    have hx : x < W := by omega
    have hy : y < H := by omega
    have hi : y * W + x < L.length := by rw [hL]; exact pl_lt hx hy
    rw [bit_in hx hy] at h
    refine ⟨x, y, rfl, hx, hy, ?_⟩
    rw [e _ hi, h]; simp
def stC (c : Bool) : List (Int × Int) := if c then stepE else stepL
theorem stT_C (c : Bool) : StT c (stC c) := by
  cases c
  · exact stT_four
  · exact stT_eight
theorem nbD_C (c : Bool) : ∀ p q, q ∈ nbD (stC c) p ↔ if c then A8 p q else A4 p q := fun p q => by
  cases c
  · show q ∈ nbD stepL p ↔ _
    rw [nbD_four]; exact mem_nbF
  · exact mem_stepE
/-- The pixels of a part, in reading order. -/
def spC2T (L : List Bool) (W H : Nat) (c : Bool) (a : Cell) : List (Int × Int) := spB (rchL (stC c) (colL L c) W H a) W (W * H)
theorem spT_mem {L : List Bool} {W H : Nat} {c : Bool} (hL : L.length = W * H) (hW : W ≤ 20) (hH : H ≤ 20) {a z : Cell} (ha : okC L W H c a = true) : z ∈ spC2T L W H c a ↔ (pcI L W H).Same a z := by
  have hW0 : 0 < W := by
    have := (okC_iff.1 ha).1
    have := hasB_iff.1 (has_iff.1 this)
    omega
  have R : ∀ q, (rchF (nbD (stC c)) (okI (colL L c) W H) (W * H) a q).isSome = true ↔ (pcI L W H).Same a q := fun q => by
    rw [okI_col hL]
    exact (rchB_iff (okB_C L c hW hH) ha).trans (rch_same (nbD_C c) ha)
  have G : ∀ x y, x < W → y < H → (rchL (stC c) (colL L c) W H a).getD (y * W + x) false = (rchF (nbD (stC c)) (okI (colL L c) W H) (W * H) a ((x : Int), (y : Int))).isSome := fun x y hx hy => by
    rw [rchL, bTo_get (pl_lt hx hy), rO_at _ hx]
  rw [spC2T, spB_mem hW0]
  constructor
  · rintro ⟨x, y, rfl, hx, hy, h⟩
    rw [G x y hx hy] at h
    exact (R _).1 h
  · intro h
    obtain ⟨z1, z2⟩ := z
    have := hasB_iff.1 (has_iff.1 h.hasR)
    simp only at this
    obtain ⟨x, rfl⟩ : ∃ k : Nat, z1 = k := ⟨z1.toNat, by omega⟩
    obtain ⟨y, rfl⟩ : ∃ k : Nat, z2 = k := ⟨z2.toNat, by omega⟩
    refine ⟨x, y, rfl, by omega, by omega, ?_⟩
    rw [G x y (by omega) (by omega)]
    exact (R _).2 h
theorem spT_len (L : List Bool) (W H : Nat) (c : Bool) (a : Cell) : (spC2T L W H c a).length ≤ W * H := spB_len _ _ _
/-- Which pixels have been seen, as a list. -/
def sO (W : Nat) (s : Cell → Bool) (i : Nat) : Bool := s (((i % W : Nat) : Int), ((i / W : Nat) : Int))
theorem sO_at {W : Nat} (s : Cell → Bool) {x y : Nat} (hx : x < W) : sO W s (y * W + x) = s ((x : Int), (y : Int)) := by
  rw [sO, plM hx, plD hx]
theorem sO_put {W N : Nat} (s : Cell → Bool) {x y : Nat} (hx : x < W) : (bTo (sO W s) N).set (y * W + x) true = bTo (sO W fun z => s z || decide (z = ((x : Int), (y : Int)))) N := by
  apply List.ext_getElem
  · simp [bTo]
  · intro i h1 h2
    rw [List.getElem_set]
    simp only [bTo, List.getElem_map, List.getElem_range]
    split
    · rename_i e
      subst e
      rw [sO_at _ hx]; simp
    · rename_i e
      have : ¬ ((((i % W : Nat) : Int), ((i / W : Nat) : Int)) = ((x : Int), (y : Int))) := by
        intro h
        rw [Prod.mk.injEq] at h
        have hW : 0 < W := by omega
        have := (pl_eq (W := W) i hW).1
        have h1 : i % W = x := by have := h.1; omega
        have h2 : i / W = y := by have := h.2; omega
        rw [h1, h2] at this
        exact e this.symm
      show s _ = (s _ || decide _)
      rw [decide_eq_false this, Bool.or_false]
theorem seen_cell {w : World} {g W H x y : Nat} {s : Cell → Bool} (h : Blk w g 4 (boolC (bTo (sO W s) (W * H)))) (hx : x < W) (hy : y < H) : w.cell? ⟨g, y * W + x, none⟩ = some (.bool (s ((x : Int), (y : Int)))) := by
  have hp := pl_lt hx hy
  rw [h.cell, boolC_get _ _ (by rw [bTo_length]; exact hp)]
  simp only [bTo, List.getElem_map, List.getElem_range]
  rw [sO_at _ hx]
theorem seen_put {w : World} {g W H x y : Nat} {s : Cell → Bool} (h : Blk w g 4 (boolC (bTo (sO W s) (W * H)))) (hx : x < W) : Blk (w.setCell ⟨g, y * W + x, none⟩ (.bool true)) g 4 (boolC (bTo (sO W fun z => s z || decide (z = ((x : Int), (y : Int)))) (W * H))) := by
  have := h.store (y * W + x) (.bool true)
  rw [boolC_set, sO_put _ hx] at this
  exact this
theorem PicAt.chgT {S : Nat → Prop} {w w' : World} {p ga c : Nat} {rows : List ByteArray} (h : PicAt w p (some ⟨ga, 0, none⟩) c rows) (hc : Chg S w w') (hp : ¬ S p) (hg : ¬ S ga) : PicAt w' p (some ⟨ga, 0, none⟩) c rows :=
  ⟨Nat.lt_of_lt_of_le h.lt hc.size, (hc.cell (p := ⟨p, 0, none⟩) h.lt hp).trans h.cell, fun hn => by
    obtain ⟨g, e, hl, hr⟩ := h.rd hn
    cases e
    exact ⟨_, rfl, Nat.lt_of_lt_of_le hl hc.size, fun i hi => (hc.cell (p := ⟨_, i, none⟩) hl hg).trans (hr i hi)⟩⟩
theorem own_own_neT {w : World} {b1 b2 : Nat} {e1 e2 : TypeId} {s1 s2 n1 n2 : Nat} {v1 v2 : Value} {x1 x2 : List Value} (h1 : w.ownsRow b1 e1 s1 v1 n1 x1) (h2 : w.ownsRow b2 e2 s2 v2 n2 x2) (hne : e1 ≠ e2) {g : Nat} (hg : v1.ownBlock = some g) : v2.ownBlock ≠ some g := by
  intro hg2
  obtain ⟨k, hk⟩ : ∃ k, k = g := ⟨_, rfl⟩
  rcases h1.2 with ⟨e, _⟩ | ⟨g1, c1, cur1, e, _, hb1, _⟩
  · rw [e] at hg; cases hg
  · rcases h2.2 with ⟨e', _⟩ | ⟨g2, c2, cur2, e', _, hb2, _⟩
    · rw [e'] at hg2; cases hg2
    · rw [e] at hg; rw [e'] at hg2
      have h1 : g1 = g := by simpa [Value.ownBlock] using hg
      have h2 : g2 = g := by simpa [Value.ownBlock] using hg2
      rw [h1] at hb1; rw [h2] at hb2
      rw [hb1] at hb2
      simp only [Option.some.injEq, Obj.cells.injEq] at hb2
      exact hne hb2.2.1
theorem steps4_any (w : World) : Calls Try.prog 82 #[.bool false] w fun e w' => e = .returned (.slice (some ⟨w.heap.size, 0, none⟩) 4 4) ∧ Blk w' w.heap.size 50 (spC stepL) ∧ Below w.heap.size w w' := by
  have S0 : Blk (w.alloc (.cells #[.int .i64 0, .int .i64 (-1), .int .i64 (-1), .int .i64 0, .int .i64 1, .int .i64 0, .int .i64 0, .int .i64 1] 50)) w.heap.size 50 (spC stepL) := Blk.made w 50 (spC stepL)
  go_enter Try.func82, Try.ntmps82
  go_wp2_with fail
  go_ret
  exact ⟨rfl, S0, Ext.more (Ext.refl _) _⟩
/-- What lies in memory while the reference visits a part. -/
structure NsJ (w0 : World) (mp ga cc gs : Nat) (rows : List ByteArray) (W H : Nat) (gp gt cp : Nat) (SP ST : List (Int × Int)) (gc cd : Nat) (K : List Kid) (s : Cell → Bool) (wr : World) : Prop where
  pic : PicAt wr mp (some ⟨ga, 0, none⟩) cc rows
  seen : Blk wr gs 4 (boolC (bTo (sO W s) (W * H)))
  spots : wr.ownsRow w0.heap.size 50 2 (.slice (some ⟨gp, 0, none⟩) SP.length cp) SP.length (spL SP)
  steps : Blk wr gt 50 (spC ST)
  row : wr.ownsRow w0.heap.size 9 1 (.slice (some ⟨gc, 0, none⟩) K.length cd) K.length ((srtC (K.map fun e => e.2.1)).map encStr)
  chg : Chg (fun b => b = gs ∨ w0.heap.size ≤ b) w0 wr
  hm : mp < w0.heap.size ∧ mp ≠ gs
  ha : ga < w0.heap.size ∧ ga ≠ gs
  hs : gs < w0.heap.size
  hp : w0.heap.size ≤ gp
  ht : w0.heap.size ≤ gt
section
variable {w0 : World} {mp ga cc gs W H gp gt cp gc cd : Nat} {rows : List ByteArray} {SP ST : List (Int × Int)} {K : List Kid} {s s' : Cell → Bool} {wr w' : World}
theorem NsJ.neT (h : NsJ w0 mp ga cc gs rows W H gp gt cp SP ST gc cd K s wr) : gc ≠ gp ∧ gc ≠ gt := by
  constructor
  · have := own_own_neT h.row h.spots (by decide) (g := gc) rfl
    simpa [Value.ownBlock, eq_comm] using this
  · have := own_blk_ne h.row h.steps (by decide)
    simpa [Value.ownBlock] using this
theorem NsJ.move (h : NsJ w0 mp ga cc gs rows W H gp gt cp SP ST gc cd K s wr) {S : Nat → Prop} (hc : Chg S wr w') (hS : ∀ b, S b → b < wr.heap.size → b = gs) (hs : Blk w' gs 4 (boolC (bTo (sO W s') (W * H)))) :
    NsJ w0 mp ga cc gs rows W H gp gt cp SP ST gc cd K s' w' := by
  obtain ⟨m1, m2⟩ := h.hm
  obtain ⟨a1, a2⟩ := h.ha
  have b1 := h.hs; have b2 := h.hp; have b3 := h.ht
  obtain ⟨n1, n2⟩ := h.neT
  have z := h.chg.size
  have gl := h.row.lt gc rfl
  have gg := (h.spots.lt gp rfl).2
  have gt' := h.steps.lt
  have K' : ∀ b, b < wr.heap.size → b ≠ gs → ¬ S b := fun b hb h1 h2 => h1 (hS b h2 hb)
  refine ⟨h.pic.chgT hc (K' _ (by omega) m2) (K' _ (by omega) a2), hs, hc.own h.spots (fun q hq => (show q = gp by simpa [Value.ownBlock] using hq.symm) ▸ K' gp gg (by omega)), hc.blk h.steps (K' _ gt' (by omega)), hc.own h.row (fun q hq => ?_), ?_, h.hm, h.ha, b1, b2, b3⟩
  · have : q = gc := by simpa [Value.ownBlock] using hq.symm
    subst this
    exact K' q gl.2 (by omega)
  · refine ⟨hc.os.trans h.chg.os, hc.tape.trans h.chg.tape, hc.output.trans h.chg.output, Nat.le_trans z hc.size, fun k hk hn => ?_⟩
    refine (hc.block k (by omega) (fun h3 => ?_)).trans (h.chg.block k hk hn)
    have := hS k h3 (by omega)
    omega
theorem NsJ.step (h : NsJ w0 mp ga cc gs rows W H gp gt cp SP ST gc cd K s wr) (hb : Below wr.heap.size wr w') : NsJ w0 mp ga cc gs rows W H gp gt cp SP ST gc cd K s w' :=
  h.move (Chg.of_below hb) (fun _ h1 h2 => by omega) (h.seen.under hb h.seen.lt)
/-- A code more. -/
theorem NsJ.app (h : NsJ w0 mp ga cc gs rows W H gp gt cp SP ST gc cd K s wr) {e : Kid} {gc' cd' : Nat} (hc : Chg (fun b => b = gc) wr w') (hrow : w'.ownsRow w0.heap.size 9 1 (.slice (some ⟨gc', 0, none⟩) (K.length + 1) cd') (K.length + 1) ((insT (srtC (K.map fun e => e.2.1)) e.2.1).map encStr)) :
    NsJ w0 mp ga cc gs rows W H gp gt cp SP ST gc' cd' (K ++ [e]) s w' := by
  obtain ⟨m1, m2⟩ := h.hm
  obtain ⟨a1, a2⟩ := h.ha
  have b1 := h.hs; have b2 := h.hp; have b3 := h.ht
  obtain ⟨n1, n2⟩ := h.neT
  have z := h.chg.size
  have gl := h.row.lt gc rfl
  have gg := (h.spots.lt gp rfl).2
  have gt' := h.steps.lt
  refine ⟨h.pic.chgT hc (by omega) (by omega), hc.blk h.seen (by omega), hc.own h.spots (fun q hq => (show q = gp by simpa [Value.ownBlock] using hq.symm) ▸ (by omega)), hc.blk h.steps (by omega), ?_, ?_, h.hm, h.ha, b1, b2, b3⟩
  · rw [insT_srt] at hrow
    rw [List.length_append, List.length_singleton, List.map_append, List.map_singleton]
    exact hrow
  · refine ⟨hc.os.trans h.chg.os, hc.tape.trans h.chg.tape, hc.output.trans h.chg.output, Nat.le_trans z hc.size, fun k hk hn => ?_⟩
    exact (hc.block k (by omega) (by omega)).trans (h.chg.block k hk hn)
end
end Go.Proofs.Ytdhajndmebnknaa
