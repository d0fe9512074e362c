/- The heights of ways: what is held while they are found. The least heights of ways from a pixel: the program's. The least heights of ways to the edge: the program's. -/
import Derived.Test.YtkamkjbllmgifaaRem
import Derived.Laws.EntriesVeiled
namespace Go.Proofs.Ytkamkjbllmgifaa
open Go.RowKit

/-- The number at a place. -/
def gF (rows : List (List Int)) (W : Nat) (i : Nat) : Int := (rows.getD (i / W) []).getD (i % W) 0
theorem gF_at {rows : List (List Int)} {W x y : Nat} (hx : x < W) (hy : y < rows.length) (hx2 : x < rows[y].length) : gF rows W (y * W + x) = rows[y][x] := by
  rw [gF, plD hx, plM hx]
  simp [List.getD_eq_getElem?_getD, hy, hx2]
theorem gF_bd {rows : List (List Int)} {W : Nat} (hok : greyOk rows = true) (hW : tabW rows = W) : ∀ i, i < W * rows.length → 0 ≤ gF rows W i ∧ gF rows W i ≤ 99 := by
  intro i hi
  obtain ⟨s1, s2, s3, s4⟩ := tab_sizes hok
  obtain ⟨e, hm⟩ := pl_eq (W := W) i (by omega)
  have hr := pl_row hi
  have hl := tab_row hok (i / W) hr
  have := tab_num hok (i / W) (i % W) hr (by omega)
  rw [e, gF_at hm hr (by omega)]
  exact this

theorem SpAt.put {w : World} {g : Nat} {L : List (Int × Int)} (h : SpAt w g L) {p : Addr} (hp : g ≠ p.block) (u : Value) : SpAt (w.setCell p u) g L := by
  refine ⟨by simpa [World.setCell] using h.1, fun i hi => ?_⟩
  have hc : ∀ j, (w.setCell p u).cell? ⟨g, j, none⟩ = w.cell? ⟨g, j, none⟩ := fun j => World.cell?_setCell_other w _ _ _ (fun e => hp (by rw [e]))
  exact ⟨(hc _).trans (h.2 i hi).1, (hc _).trans (h.2 i hi).2⟩
theorem MatRd.same {w : World} {A : Option Addr} {r1 r2 : List (List Int)} (h1 : MatRd w A r1) (h2 : MatRd w A r2) {y x : Nat} (hy1 : y < r1.length) (hx1 : x < r1[y].length) (hy2 : y < r2.length) (hx2 : x < r2[y].length) : r1[y][x] = r2[y][x] := by
  obtain ⟨g, gr, cy, rfl, _, a1, _, a2⟩ := h1.num hy1 hx1
  obtain ⟨g', gr', cy', e, _, b1, _, b2⟩ := h2.num hy2 hx2
  simp only [Option.some.injEq, Addr.mk.injEq, and_true] at e
  subst e
  rw [a1] at b1
  simp only [Option.some.injEq, Value.slice.injEq, Addr.mk.injEq, and_true] at b1
  obtain ⟨rfl, _⟩ := b1
  rw [a2] at b2
  simpa using b2

/-- What is held: the box of the picture that is made, its memory between lo and po, the rest as it was. -/
structure HeiInv (w0 : World) (lo po : Nat) (A : Option Addr) (c : Nat) (vs : List Value) (W H : Nat) (O : Nat → Int) (wr : World) : Prop where
  box : Blk wr po 26 #[.slice A H c]
  mat : MatAt wr lo po A c vs (gO O W H)
  ext : Below lo w0 wr
section
variable {w0 : World} {lo po : Nat} {A : Option Addr} {c : Nat} {vs : List Value} {W H : Nat} {O : Nat → Int} {wr : World}
theorem HeiInv.step (h : HeiInv w0 lo po A c vs W H O wr) {w' : World} (hb : Below wr.heap.size wr w') (hlo : lo ≤ po) : HeiInv w0 lo po A c vs W H O w' :=
  ⟨h.box.under hb h.box.lt, h.mat.ext hb, h.ext.trans (hb.mono (by have := h.box.lt; omega))⟩
theorem HeiInv.grey (h : HeiInv w0 lo po A c vs W H O wr) : GreyAt wr po A c (gO O W H) :=
  ⟨h.box.lt, by rw [gO_length]; have := h.box.cell 0; simpa using this, h.mat.rd⟩
theorem HeiInv.put (h : HeiInv w0 lo po A c vs W H O wr) {x y : Nat} (hx : x < W) (hy : y < H) :
    ∃ g gr cy, A = some ⟨g, 0, none⟩ ∧ g < wr.heap.size ∧ wr.cell? ⟨g, y, none⟩ = some (.slice (some ⟨gr, 0, none⟩) W cy) ∧ lo ≤ gr ∧ gr < po ∧ gr < wr.heap.size ∧ wr.frozen? ⟨gr, x, none⟩ = false ∧ wr.cell? ⟨gr, x, none⟩ = some (.int .i64 (O (y * W + x))) ∧
      ∀ v, HeiInv w0 lo po A c vs W H (setF O (y * W + x) v) (wr.setCell ⟨gr, x, none⟩ (.int .i64 v)) := by
  have hy' : y < (gO O W H).length := by rw [gO_length]; exact hy
  have hx' : x < (gO O W H)[y].length := by rw [gO_w]; exact hx
  obtain ⟨g, gr, cy, a1, a2, a3, a4, a5, a6, a7, a8, a9⟩ := h.mat.put hy' hx'
  rw [gO_w] at a3
  rw [gO_get] at a8
  refine ⟨g, gr, cy, a1, a2, a3, a4, a5, a6, a7, a8, fun v => ⟨h.box.apart (p := ⟨gr, x, none⟩) (by show po ≠ gr; omega) _, ?_, h.ext.setCell (p := ⟨gr, x, none⟩) a4 _⟩⟩
  have := a9 v
  rwa [gO_set O W H x y v hx hy] at this
/-- A number stored, after calls that make memory. -/
theorem HeiInv.putW (h : HeiInv w0 lo po A c vs W H O wr) {x y : Nat} (hx : x < W) (hy : y < H) (hlp : lo ≤ po) :
    ∃ g gr cy, A = some ⟨g, 0, none⟩ ∧ g < wr.heap.size ∧ lo ≤ gr ∧ gr < po ∧ gr < wr.heap.size ∧ ∀ w', Below wr.heap.size wr w' →
      w'.cell? ⟨g, y, none⟩ = some (.slice (some ⟨gr, 0, none⟩) W cy) ∧ w'.frozen? ⟨gr, x, none⟩ = false ∧ w'.cell? ⟨gr, x, none⟩ = some (.int .i64 (O (y * W + x))) ∧
      ∀ v, HeiInv w0 lo po A c vs W H (setF O (y * W + x) v) (w'.setCell ⟨gr, x, none⟩ (.int .i64 v)) := by
  obtain ⟨g, gr, cy, rfl, a2, a3, a4, a5, a6, _, _, _⟩ := h.put hx hy
  refine ⟨g, gr, cy, rfl, a2, a4, a5, a6, fun w' hb => ?_⟩
  obtain ⟨g', gr', cy', e, b2, b3, b4, b5, b6, b7, b8, b9⟩ := (h.step hb hlp).put hx hy
  simp only [Option.some.injEq, Addr.mk.injEq, and_true] at e
  subst e
  have h3 := (hb.cell (p := ⟨g, y, none⟩) a2).trans a3
  have h4 := h3
  rw [b3] at h4
  simp only [Option.some.injEq, Value.slice.injEq, Addr.mk.injEq, and_true] at h4
  obtain ⟨rfl, _, rfl⟩ := h4
  exact ⟨h3, b7, b8, b9⟩
theorem HeiInv.same {P : Nat → Int} (h : HeiInv w0 lo po A c vs W H O wr) (k : HeiInv w0 lo po A c vs W H P wr) : ∀ i, i < W * H → O i = P i := by
  intro i hi
  have hW : 0 < W := by
    by_cases e : W = 0
    · subst e; omega
    · omega
  obtain ⟨e, hm⟩ := pl_eq (W := W) i hW
  have hr := pl_row hi
  have e1 : i / W < (gO O W H).length := by rw [gO_length]; exact hr
  have e2 : i / W < (gO P W H).length := by rw [gO_length]; exact hr
  have := h.mat.rd.same k.mat.rd (y := i / W) (x := i % W) e1 (by rw [gO_w]; exact hm) e2 (by rw [gO_w]; exact hm)
  rw [gO_get, gO_get, ← e] at this
  exact this
end
theorem sumF_congr {O P : Nat → Int} : ∀ n, (∀ i, i < n → O i = P i) → sumF O n = sumF P n := by
  intro n
  induction n with
  | zero => intro _; rfl
  | succ n ih => intro h; rw [sumF, sumF, ih (fun i hi => h i (by omega)), h n (by omega)]
/-- The sum of the heights that a world holds. -/
noncomputable def measH (w0 : World) (lo po : Nat) (A : Option Addr) (c : Nat) (vs : List Value) (W H : Nat) (wr : World) : Nat :=
  open Classical in if h : ∃ O, HeiInv w0 lo po A c vs W H O wr then sumF h.choose (W * H) else 0
theorem measH_of {w0 : World} {lo po : Nat} {A : Option Addr} {c : Nat} {vs : List Value} {W H : Nat} {O : Nat → Int} {wr : World} (h : HeiInv w0 lo po A c vs W H O wr) : measH w0 lo po A c vs W H wr = sumF O (W * H) := by
  have hx : ∃ O, HeiInv w0 lo po A c vs W H O wr := ⟨O, h⟩
  rw [measH, dif_pos hx]
  exact sumF_congr _ (hx.choose_spec.same h)
theorem hei_at {w0 : World} {lo po : Nat} {A : Option Addr} {c : Nat} {vs : List Value} {W H : Nat} {O : Nat → Int} {wr : World} (h : HeiInv w0 lo po A c vs W H O wr) {x y : Nat} (hx : x < W) (hy : y < H) :
    Calls Try.prog 41 #[.pointer (some ⟨po, 0, none⟩), .agg #[.int .i64 x, .int .i64 y]] wr fun e w' => e = .returned (.int .i64 (O (y * W + x))) ∧ Below wr.heap.size wr w' := by
  have := at_any po A c (gO O W H) x y wr h.grey (by rw [gO_length]; exact hy) (by rw [gO_w]; exact hx)
  rwa [gO_get] at this
theorem g_at {p : Nat} {A : Option Addr} {c : Nat} {rows : List (List Int)} {W : Nat} {wr : World} (h : GreyAt wr p A c rows) (hr : ∀ y (hy : y < rows.length), rows[y].length = W) {x y : Nat} (hx : x < W) (hy : y < rows.length) :
    Calls Try.prog 41 #[.pointer (some ⟨p, 0, none⟩), .agg #[.int .i64 x, .int .i64 y]] wr fun e w' => e = .returned (.int .i64 (gF rows W (y * W + x))) ∧ Below wr.heap.size wr w' := by
  have := at_any p A c rows x y wr h hy (by rw [hr y hy]; exact hx)
  rwa [gF_at hx hy (by rw [hr y hy]; exact hx)]
theorem g_has {p : Nat} {A : Option Addr} {c : Nat} {rows : List (List Int)} {W H : Nat} {wr : World} (h : GreyAt wr p A c rows) (hW : tabW rows = W) (hH : rows.length = H) (hH0 : 0 < H) (hW1 : W ≤ 1000) (hH1 : H ≤ 1000) (x y : Int) :
    Calls Try.prog 44 #[.pointer (some ⟨p, 0, none⟩), .agg #[.int .i64 x, .int .i64 y]] wr fun e w' => e = .returned (.bool (inG W H (x, y))) ∧ Below wr.heap.size wr w' := by
  have := has_any' p A c rows x y wr h (by omega) (by omega) (by omega)
  rwa [hW, hH] at this
end Go.Proofs.Ytkamkjbllmgifaa

namespace Go.Proofs.Ytkamkjbllmgifaa
open Go.RowKit

def bit1 : Value → Nat
  | .bool true => 1
  | _ => 0
theorem enters_heights1 : Enters 80 := enters_of Try.func80 (by kernel_rfl) (by kernel_rfl)
theorem heights1_any (x y : Int) (w : World) : Calls Try.prog 80 #[.agg #[.int .i64 x, .int .i64 y]] w fun e w' => e = .returned (.int .i64 100) ∧ Below w.heap.size w w' := by
  go_enter Try.func80, Try.ntmps80
  go_wp2_with fail
  go_ret
  exact ⟨rfl, Ext.more (Ext.refl _) _⟩

set_option maxRecDepth 100000 in
set_option maxHeartbeats 8000000 in
theorem heights_any (p : Nat) (A0 : Option Addr) (c0 : Nat) (rows : List (List Int)) (W H fx fy : Nat) (w : World) (h : GreyAt w p A0 c0 rows) (hok : greyOk rows = true) (hW0 : tabW rows = W) (hH0 : rows.length = H) (hfx : fx < W) (hfy : fy < H) :
    Calls Try.prog 45 #[.pointer (some ⟨p, 0, none⟩), .agg #[.int .i64 fx, .int .i64 fy]] w fun e w' => ∃ A c vs O, e = .returned (.agg #[.slice A H c]) ∧ MatAt w' w.heap.size w'.heap.size A c vs (gO O W H) ∧ Hid (IsPass W (W * H) (gF rows W) (fun i => i = fy * W + fx) O) ∧ Below w.heap.size w w' := by
  obtain ⟨s1, s2, s3, s4⟩ := tab_sizes hok
  have GB : Hid (∀ i, i < W * H → 0 ≤ gF rows W i ∧ gF rows W i ≤ 99) := by rw [← hH0]; exact gF_bd hok hW0
  have hr := tab_row hok
  have GH := Lib.hid (fun V (hV : GreyAt V p A0 c0 rows) (x y : Int) => g_has hV hW0 hH0 (by omega) (by omega) (by omega) x y)
  have GA := Lib.hid (fun V (hV : GreyAt V p A0 c0 rows) (x y : Nat) (hx : x < W) (hy : y < H) => g_at hV (fun y hy => by rw [hr y hy, hW0]) hx (by omega) (y := y))
  have GS := Lib.hid (fun V (hV : GreyAt V p A0 c0 rows) => spots_any' p A0 c0 rows W V hV (by omega) (by omega) (fun y hy => by rw [hr y hy, hW0]))
  have RM := Lib.hid (fun V (hV : GreyAt V p A0 c0 rows) => remade_any p A0 c0 rows 80 #[] (fun _ => 100) W H V hV hW0 hH0 (by omega) (by omega) (by omega) enters_heights1 (fun x y _ _ wr _ => heights1_any x y wr))
  have HB := Lib.hid (fun V (hb : Below w.heap.size w V) => h.ext hb)
  have hWl : W ≤ 16 := by omega
  have hHl : H ≤ 16 := by omega
  rw [hH0, Nat.mul_comm H W] at GS
  have FP : Hid (fy * W + fx < W * H) := pl_lt hfx hfy
  have AL := Lib.hid (fun (x y : Nat) (hx : x < W) (hy : y < H) k hk hq => arL_adj (H := H) hx hy k hk hq)
  have AA := Lib.hid (fun (x y : Nat) (hx : x < W) (hy : y < H) j hj => arL_all (H := H) (j := j) hx hy hj)
  have PR := Lib.hid (fun (i : Nat) (hi : i < W * H) => pl_row hi)
  have PL := Lib.hid (fun (x y : Nat) (hx : x < W) (hy : y < H) => pl_lt hx hy)
  have MH := Lib.hid (fun w0 lo po A c vs O wr => measH_of (w0 := w0) (lo := lo) (po := po) (A := A) (c := c) (vs := vs) (W := W) (H := H) (O := O) (wr := wr))
  have hnl : W * H ≤ 256 := Nat.le_trans (Nat.mul_le_mul hWl hHl) (by decide)
  have hH1 : 0 < H := by omega
  have hW1 : 0 < W := by omega
  clear h hok hW0 hr s1 s2 s3 s4
  generalize W * H = n at *
  generalize gF rows W = G at *
  have B1 : Below w.heap.size w ((w.alloc (.cells #[.int .i64 fx, .int .i64 fy] 39)).alloc (.cells #[.slice none 0 0] 26)) := Ext.more (Ext.more (Ext.refl _) _) _
  have T3 : Blk ((w.alloc (.cells #[.int .i64 fx, .int .i64 fy] 39)).alloc (.cells #[.slice none 0 0] 26)) w.heap.size 39 #[.int .i64 fx, .int .i64 fy] := (Blk.made _ _ _).more _
  have T4 : Blk ((w.alloc (.cells #[.int .i64 fx, .int .i64 fy] 39)).alloc (.cells #[.slice none 0 0] 26)) (w.heap.size + 1) 26 #[.slice none 0 0] := by
    have := Blk.made (w.alloc (.cells #[.int .i64 fx, .int .i64 fy] 39)) 26 #[.slice none 0 0]
    simpa using this
  go_enter Try.func45, Try.ntmps45
  go_wp2_with fail
  generalize (w.alloc (.cells #[.int .i64 fx, .int .i64 fy] 39)).alloc (.cells #[.slice none 0 0] 26) = w1 at *
  refine (RM.out _ (HB.out _ B1)).mono ?_
  rintro e w2 ⟨A, c, vs, rfl, hm, hb2⟩
  have I0 : HeiInv w1 w1.heap.size w2.heap.size A c vs W H (fun _ => 100) (w2.alloc (.cells #[.slice A H c] 26)) := ⟨Blk.made _ _ _, hm.ext (Ext.more (Ext.refl _) _), Ext.more hb2 _⟩
  have hz12 := hb2.size
  have T3' := ((T3.under hb2 T3.lt).more (.cells #[.slice A H c] 26))
  have hlo : w.heap.size + 2 ≤ w1.heap.size := by have := T4.lt; omega
  clear hm hb2 RM
  go_wp2_with fail
  obtain ⟨lo, hlo'⟩ : ∃ lo, w1.heap.size = lo := ⟨_, rfl⟩
  obtain ⟨po, hpo⟩ : ∃ po, w2.heap.size = po := ⟨_, rfl⟩
  rw [hlo'] at I0 hlo hz12
  rw [hpo] at I0 hz12
  simp only [hpo]
  have BW := Lib.hid (fun O wr (I : HeiInv w1 lo po A c vs W H O wr) => B1.trans (I.ext.mono (show w.heap.size ≤ lo by omega)))
  generalize w2.alloc (.cells #[.slice A H c] 26) = wA at *
  have BA := BW.out _ _ I0
  obtain ⟨g, gr, cy, rfl, a2, a4, a5, a6, aW⟩ := I0.putW hfx hfy (by omega)
  have z0 := I0.box.cell 0
  have f0 := T3'.cell 0
  have f1 := T3'.cell 1
  simp at z0 f0 f1
  have l0 := I0.box.lt
  have l1 := T3'.lt
  refine wp_region_held_tail 12 (fun V => Below wA.heap.size wA V) (by kernel_rfl) (by kernel_rfl) (Ext.refl _).drew ?_
  simp only [List.take_succ_cons, List.take_zero, List.drop_succ_cons, List.drop_zero]
  have ne : Nonempty (HeldW (fun V => Below wA.heap.size wA V)) := ⟨⟨wA, Ext.refl _⟩⟩
  have k0 : ∀ i : HeldW (fun V => Below wA.heap.size wA V), i.w.cell? ⟨po, 0, none⟩ = some (.slice (some ⟨g, 0, none⟩) H c) := fun i => (i.h.cell (p := ⟨po, 0, none⟩) l0).trans z0
  have k1 : ∀ i : HeldW (fun V => Below wA.heap.size wA V), i.w.cell? ⟨w.heap.size, 0, none⟩ = some (.int .i64 fx) := fun i => (i.h.cell (p := ⟨w.heap.size, 0, none⟩) l1).trans f0
  have k2 : ∀ i : HeldW (fun V => Below wA.heap.size wA V), i.w.cell? ⟨w.heap.size, 1, none⟩ = some (.int .i64 fy) := fun i => (i.h.cell (p := ⟨w.heap.size, 1, none⟩) l1).trans f1
  have k3 : ∀ i : HeldW (fun V => Below wA.heap.size wA V), i.w.cell? ⟨g, fy, none⟩ = some (.slice (some ⟨gr, 0, none⟩) W cy) := fun i => (aW i.w i.h).1
  have x0 : (0 : Int) ≤ (fx : Int) := by omega
  have x1 : (fx : Int) < (W : Int) := by omega
  have y0 : (0 : Int) ≤ (fy : Int) := by omega
  have y1 : (fy : Int) < (H : Int) := by omega
  repeat (go_big_quiet_step ((go_at_call 41; exact Calls.above_of _ (GA.out _ (HB.out _ (Ext.then_ BA (HeldW.h _))) fx fy hfx hfy))))
  refine wpQuiet_nil ?_
  intro w3 hw'
  obtain ⟨⟨_, hb3⟩, rfl⟩ := hw'
  clear ne k0 k1 k2 k3 z0 f0 f1
  obtain ⟨q1, q2, q3, q4⟩ := aW w3 hb3
  have I2 := q4 (G (fy * W + fx))
  have SS := start_sound (n := n) (G := G) (W := W) (F := fun i => i = fy * W + fx) (O := setF (fun _ => 100) (fy * W + fx) (G (fy * W + fx))) GB.out (fun i hi => by
    by_cases e : i = fy * W + fx
    · subst e; exact .inl ⟨rfl, setF_same _ _ _⟩
    · exact .inr ⟨e, setF_ne e _⟩)
  have SS1 := Lib.hid SS.1
  have SS2 := Lib.hid SS.2
  clear SS aW q4 I0
  go_wp2_with fail
  have hgx : gr < po := a5
  generalize w3.setCell ⟨gr, fx, none⟩ (.int .i64 (G (fy * W + fx))) = w4 at *
  generalize (setF (fun _ => 100) (fy * W + fx) (G (fy * W + fx))) = O1 at *
  clear q1 q2 q3 a2 a4 a5 a6 l0 l1 x0 x1 y0 y1 hb3 BA hfx hfy FP T3'
  go_loopw [6] (fun v wr => ∃ O b, v = .bool b ∧ Hid (SoundP W n G (fun i => i = fy * W + fx) O) ∧ Hid (StartP n G (fun i => i = fy * W + fx) O) ∧ Hid (b = false → ClosedP W n G O) ∧ HeiInv w1 lo po (some ⟨g, 0, none⟩) c vs W H O wr) (fun v wr => 2 * measH w1 lo po (some ⟨g, 0, none⟩) c vs W H wr + bit1 v)
  case atStart => exact ⟨O1, true, rfl, SS1, SS2, fun h => (by cases h), I2⟩
  case round =>
    obtain ⟨O, b, rfl, hS, hT, hC, I⟩ := hrel
    clear SS1 SS2 I2
    have ME := Lib.hid (MH.out _ _ _ _ _ _ _ _ I)
    rw [ME.out]
    cases b
    · have hC' := Lib.hid (hC rfl)
      have z0 := I.box.cell 0
      have T4' := T4.under I.ext (show w.heap.size + 1 < lo by omega)
      have c4 := T4'.cell 0
      have f4 := T4'.free 0
      have cs := (T4'.store 0 (.slice (some ⟨g, 0, none⟩) H c)).cell 0
      simp at z0 c4 cs
      have BE := Lib.hid (BW.out _ _ I)
      have lt0 := I.box.lt
      have I' := Lib.hid I
      clear I hC
      go_wp2_with fail
      refine bodyPost_ret (v := .agg #[.slice (some ⟨g, 0, none⟩) H c]) (by simp [results, Try.results45, go_sem, cs]) rfl ⟨some ⟨g, 0, none⟩, c, vs, O, rfl, ?_, IsPass.of_closed hS.out hT.out hC'.out, ?_⟩
      · have hk := I'.out.mat.keep ((Chg.refl (fun b => b < lo) wr).store (p := ⟨w.heap.size + 1, 0, none⟩) (by show w.heap.size + 1 < lo; omega) (.slice (some ⟨g, 0, none⟩) H c)) (fun b h1 h2 h3 => by omega)
        have hz : (wr.setCell ⟨w.heap.size + 1, 0, none⟩ (.slice (some ⟨g, 0, none⟩) H c)).heap.size = wr.heap.size := by simp [World.setCell]
        rw [hz]
        exact hk.low (by omega) (by omega)
      · exact BE.out.setCell (p := ⟨w.heap.size + 1, 0, none⟩) (by show w.heap.size ≤ w.heap.size + 1; omega) _
    · clear hC
      have lt0 := I.box.lt
      go_wp2_with fail
      refine (GS.out _ (HB.out _ (BW.out _ _ I))).mono ?_
      rintro e w5 ⟨gS, cS, rfl, oS, hb5⟩
      have SP := own_spots oS (spG_length W n)
      have I5 := I.step hb5 (by omega)
      have hgS : po < gS := by have := (oS.lt gS rfl).1; omega
      have HA := Lib.hid (Half.init hS.out hT.out)
      clear oS hb5 I
      go_wp2_with fail
      go_loopw [6, 30] (fun v i wm => ∃ (k : Nat) (O' : Nat → Int) (b : Bool) (T : Nat → Nat → Prop), k ≤ n ∧ i = .int .i64 k ∧ v = .bool b ∧ Hid (Half W n G (fun i => i = fy * W + fx) O O' b T) ∧ Hid (∀ q s, adj W n q s → s < k → T q s) ∧ HeiInv w1 lo po (some ⟨g, 0, none⟩) c vs W H O' wm ∧ SpAt wm gS (spG W n)) (fun _ i _ => n - (intOf i).toNat)
      case atStart => exact ⟨0, O, false, _, Nat.zero_le _, rfl, rfl, HA, fun q s _ h => absurd h (Nat.not_lt_zero _), I5, SP⟩
      case round =>
        obtain ⟨k, O', b, T, hk, rfl, rfl, hH, hT', Im, Sm⟩ := hrel
        clear SP I5 HA
        by_cases hlt : k < n
        · have hx : k % W < W := Nat.mod_lt _ (by omega)
          have hy : k / W < H := PR.out k hlt
          have hkl : k < (spG W n).length := by rw [spG_length]; exact hlt
          obtain ⟨c1, c2⟩ := Sm.2 k hkl
          have ek : k = k / W * W + k % W := (pl_eq k (by omega)).1
          simp only [spG, List.getElem_map, List.getElem_range] at c1 c2
          generalize k % W = x at *
          generalize k / W = y at *
          have EK := Lib.hid ek
          clear ek
          have i0 : (0 : Int) ≤ (k : Int) := by omega
          have i1 : (k : Int) < (n : Int) := by omega
          have hgS1 := Sm.1
          go_wp2_with fail
          have SB : SpAt (wr.alloc (.cells #[.int .i64 x, .int .i64 y] 39)) gS (spG W n) := Sm.ext (Ext.more (Ext.refl _) _)
          have IB : HeiInv w1 lo po (some ⟨g, 0, none⟩) c vs W H O' (wr.alloc (.cells #[.int .i64 x, .int .i64 y] 39)) := Im.step (Ext.more (Ext.refl _) _) (by omega)
          have TB := Blk.made wr 39 #[.int .i64 x, .int .i64 y]
          have zb : (wr.alloc (.cells #[.int .i64 x, .int .i64 y] 39)).heap.size = wr.heap.size + 1 := by simp
          obtain ⟨bs, hbs⟩ : ∃ bs, wr.heap.size = bs := ⟨_, rfl⟩
          rw [hbs] at TB zb hgS1
          simp only [hbs]
          generalize wr.alloc (.cells #[.int .i64 x, .int .i64 y] 39) = wn at *
          clear c1 c2 Im Sm hbs
          refine (around_any x y _ (by omega) (by omega)).mono ?_
          rintro e w6 ⟨gA, cA, rfl, oA, hb6⟩
          have SA := own_spots oA (by rfl)
          have hgA := (oA.lt gA rfl).1
          rw [zb] at hgA
          have S6 := SB.ext hb6
          have I6 := IB.step hb6 (by omega)
          have T6 := TB.under hb6 TB.lt
          clear oA hb6 SB IB TB zb
          go_wp2_with fail
          go_loopw [6, 40] (fun v i wi => ∃ (j : Nat) (O' : Nat → Int) (b : Bool) (T : Nat → Nat → Prop), j ≤ 4 ∧ i = .int .i64 j ∧ v = .bool b ∧ Hid (Half W n G (fun i => i = fy * W + fx) O O' b T) ∧ Hid (∀ q s, adj W n q s → s < k → T q s) ∧ Hid (∀ i, i < j → inG W H ((arL x y).getD i (0, 0)) = true → T (plc W ((arL x y).getD i (0, 0))) k) ∧ HeiInv w1 lo po (some ⟨g, 0, none⟩) c vs W H O' wi ∧ SpAt wi gS (spG W n) ∧ SpAt wi gA (arL x y) ∧ Blk wi bs 39 #[.int .i64 x, .int .i64 y]) (fun _ i _ => 4 - (intOf i).toNat)
          case atStart => exact ⟨0, O', b, T, by omega, rfl, rfl, hH, hT', fun i h => absurd h (Nat.not_lt_zero _), I6, S6, SA, T6⟩
          case round =>
            obtain ⟨j, O2, b2, T2, hj, rfl, rfl, hH2, hT2, hT3, I7, S7, A7, T7⟩ := hrel
            clear I6 S6 SA T6 hH hT'
            by_cases hjl : j < 4
            · obtain ⟨c1, c2⟩ := A7.2 j hjl
              have hq : (arL (x : Int) y).getD j (0, 0) = (arL (x : Int) y)[j]'hjl := by rw [List.getD_eq_getElem?_getD, List.getElem?_eq_getElem hjl]; rfl
              have AJ := Lib.hid (AL.out x y hx hy j hjl)
              rw [hq] at AJ
              have HQ := Lib.hid hq
              clear hq
              generalize (arL (x : Int) y)[j]'hjl = q at *
              obtain ⟨qx, qy⟩ := q
              simp only at c1 c2
              have i0 : (0 : Int) ≤ (j : Int) := by omega
              have i1 : (j : Int) < 4 := by omega
              have hgA1 := A7.1
              have hbs1 := T7.lt
              go_wp2_with fail
              have SQ := S7.ext (Ext.more (Ext.refl wr) (.cells #[.int .i64 qx, .int .i64 qy] 39))
              have AQ := A7.ext (Ext.more (Ext.refl wr) (.cells #[.int .i64 qx, .int .i64 qy] 39))
              have IQ := I7.step (Ext.more (Ext.refl wr) (.cells #[.int .i64 qx, .int .i64 qy] 39)) (by omega)
              have TQ := T7.more (.cells #[.int .i64 qx, .int .i64 qy] 39)
              have TX := Blk.made wr 39 #[.int .i64 qx, .int .i64 qy]
              obtain ⟨bq, hbq⟩ : ∃ bq, wr.heap.size = bq := ⟨_, rfl⟩
              rw [hbq] at TX
              simp only [hbq]
              generalize wr.alloc (.cells #[.int .i64 qx, .int .i64 qy] 39) = wn at *
              clear c1 c2 S7 A7 I7 T7 hbq
              refine (GH.out _ (HB.out _ (BW.out _ _ IQ)) qx qy).mono ?_
              rintro e w7 ⟨rfl, hb7⟩
              have S8 := SQ.ext hb7
              have A8 := AQ.ext hb7
              have I8 := IQ.step hb7 (by omega)
              have T8 := TQ.under hb7 TQ.lt
              have X8 := TX.under hb7 TX.lt
              clear hb7 SQ AQ IQ TQ TX hgA1 hbs1
              cases hin : inG W H (qx, qy)
              · have hin' := Lib.hid hin
                clear hin
                go_wp2_with fail
                go_roundw
                case rel =>
                  refine ⟨j + 1, O2, b2, T2, by omega, by go_num, rfl, hH2, hT2, fun i hi hq => ?_, I8, S8, A8, T8⟩
                  rcases Nat.lt_succ_iff_lt_or_eq.1 hi with h | h
                  · exact hT3.out i h hq
                  · subst h; rw [HQ.out, hin'.out] at hq; cases hq
                case measure => simp [intOf]; omega
              · have hqi := inG_iff.1 hin
                have AD := AJ.out hin
                obtain ⟨a, rfl⟩ : ∃ a : Nat, qx = a := ⟨qx.toNat, by have := hqi.1.1; simp only at this; omega⟩
                obtain ⟨d, rfl⟩ : ∃ d : Nat, qy = d := ⟨qy.toNat, by have := hqi.2.1; simp only at this; omega⟩
                have ha : a < W := by have := hqi.1.2; simp only at this; omega
                have hd : d < H := by have := hqi.2.2; simp only at this; omega
                have ep : plc W ((a : Int), (d : Int)) = d * W + a := by simp [plc]
                have HQ' : Hid (plc W ((arL x y).getD j (0, 0)) = d * W + a) := by rw [Hid, HQ.out, ep]
                rw [ep, ← EK.out] at AD
                have gb := GB.out k hlt
                have ok := hH2.out.sound _ AD.1
                have os := hH2.out.sound _ AD.2.1
                have AD := Lib.hid AD
                have u0 := T8.cell 0
                have u1 := T8.cell 1
                have v0 := X8.cell 0
                have v1 := X8.cell 1
                simp at u0 u1 v0 v1
                have tl := T8.lt
                have xl := X8.lt
                have CG := Lib.hid (fun V (hb : Below w7.heap.size w7 V) => GA.out V (HB.out V (BW.out _ _ (I8.step hb (by omega)))) x y hx hy)
                have CO := Lib.hid (fun V (hb : Below w7.heap.size w7 V) => hei_at (I8.step hb (by omega)) ha hd)
                have CS := Lib.hid (fun V (hb : Below w7.heap.size w7 V) => hei_at (I8.step hb (by omega)) hx hy)
                rw [← EK.out] at CG CS
                clear hin hqi ep HQ AJ
                go_wp2_with fail
                refine wp_region_held_tail 5 (fun V => Below w7.heap.size w7 V) (by kernel_rfl) (by kernel_rfl) (Ext.refl _).drew ?_
                simp only [List.take_succ_cons, List.take_zero, List.drop_succ_cons, List.drop_zero]
                have ne : Nonempty (HeldW (fun V => Below w7.heap.size w7 V)) := ⟨⟨w7, Ext.refl _⟩⟩
                have k0 : ∀ i : HeldW (fun V => Below w7.heap.size w7 V), i.w.cell? ⟨bs, 0, none⟩ = some (.int .i64 x) := fun i => (i.h.cell (p := ⟨bs, 0, none⟩) tl).trans u0
                have k1 : ∀ i : HeldW (fun V => Below w7.heap.size w7 V), i.w.cell? ⟨bs, 1, none⟩ = some (.int .i64 y) := fun i => (i.h.cell (p := ⟨bs, 1, none⟩) tl).trans u1
                have k2 : ∀ i : HeldW (fun V => Below w7.heap.size w7 V), i.w.cell? ⟨bq, 0, none⟩ = some (.int .i64 a) := fun i => (i.h.cell (p := ⟨bq, 0, none⟩) xl).trans v0
                have k3 : ∀ i : HeldW (fun V => Below w7.heap.size w7 V), i.w.cell? ⟨bq, 1, none⟩ = some (.int .i64 d) := fun i => (i.h.cell (p := ⟨bq, 1, none⟩) xl).trans v1
                repeat (go_big_quiet_step (first
                  | (go_at_call_of 41 (Value.pointer (some ⟨po, 0, none⟩)); exact Calls.above_of _ (CO.out _ (HeldW.h _)))
                  | (go_at_call_of 41 (Value.pointer (some ⟨p, 0, none⟩)); exact Calls.above_of _ (CG.out _ (HeldW.h _)))))
                refine wpQuiet_nil ?_
                intro w8 hw'
                obtain ⟨⟨_, hb8⟩, rfl⟩ := hw'
                clear ne k0 k1 k2 k3
                have T9 := T8.under hb8 tl
                have S9 := S8.ext hb8
                have A9 := A8.ext hb8
                have u2 := T9.cell 0
                have u3 := T9.cell 1
                simp at u2 u3
                generalize hoq : O2 (d * W + a) = oq at *
                generalize hgk : G k = gk at *
                have HOQ := Lib.hid hoq
                have HGK := Lib.hid hgk
                clear hoq hgk T9 S9 A9
                go_wp2_with fail
                · have hv : Hid (max (O2 (d * W + a)) (G k) = gk) := by
                    rw [Hid, HOQ.out, HGK.out]; omega
                  clear h
                  refine (CS.out _ hb8).mono ?_
                  rintro e w9 ⟨rfl, hb9⟩
                  have hb89 : Below w7.heap.size w7 w9 := Ext.then_ hb8 hb9
                  have I9 := I8.step hb89 (by omega)
                  have S9 := S8.ext hb89
                  have A9 := A8.ext hb89
                  have T9 := T8.under hb89 tl
                  obtain ⟨ov, hov⟩ : ∃ v, O2 k = v := ⟨_, rfl⟩
                  rw [hov]
                  have HOV := Lib.hid hov
                  clear hov hb8 hb9 hb89 T8 u2 u3
                  by_cases hl : gk < ov
                  · have IL := Lib.hid (hH2.out.low AD.out (by rw [HGK.out]; exact gb.1) (by rw [HGK.out]; exact gb.2) (by rw [hv.out, HOV.out]; exact hl))
                    rw [hv.out] at IL
                    obtain ⟨g', gr', cy', e, p2, p4, p5, p6, pW⟩ := I9.putW hx hy (by omega)
                    simp only [Option.some.injEq, Addr.mk.injEq, and_true] at e
                    subst e
                    have z0 := I9.box.cell 0
                    have u2 := T9.cell 0
                    have u3 := T9.cell 1
                    simp at z0 u2 u3
                    have l0 := I9.box.lt
                    have l1 := T9.lt
                    have x0 : (0 : Int) ≤ (x : Int) := by omega
                    have x1 : (x : Int) < (W : Int) := by omega
                    have y0 : (0 : Int) ≤ (y : Int) := by omega
                    have y1 : (y : Int) < (H : Int) := by omega
                    go_wp2_with fail
                    refine wp_region_held_tail 10 (fun V => Below w9.heap.size w9 V) (by kernel_rfl) (by kernel_rfl) (Ext.refl _).drew ?_
                    simp only [List.take_succ_cons, List.take_zero, List.drop_succ_cons, List.drop_zero]
                    have ne : Nonempty (HeldW (fun V => Below w9.heap.size w9 V)) := ⟨⟨w9, Ext.refl _⟩⟩
                    have k0 : ∀ i : HeldW (fun V => Below w9.heap.size w9 V), i.w.cell? ⟨po, 0, none⟩ = some (.slice (some ⟨g, 0, none⟩) H c) := fun i => (i.h.cell (p := ⟨po, 0, none⟩) l0).trans z0
                    have k1 : ∀ i : HeldW (fun V => Below w9.heap.size w9 V), i.w.cell? ⟨bs, 0, none⟩ = some (.int .i64 x) := fun i => (i.h.cell (p := ⟨bs, 0, none⟩) l1).trans u2
                    have k2 : ∀ i : HeldW (fun V => Below w9.heap.size w9 V), i.w.cell? ⟨bs, 1, none⟩ = some (.int .i64 y) := fun i => (i.h.cell (p := ⟨bs, 1, none⟩) l1).trans u3
                    have k3 : ∀ i : HeldW (fun V => Below w9.heap.size w9 V), i.w.cell? ⟨g, y, none⟩ = some (.slice (some ⟨gr', 0, none⟩) W cy') := fun i => (pW i.w i.h).1
                    repeat (go_big_quiet_step (fail))
                    refine wpQuiet_nil ?_
                    intro wa hw'
                    obtain ⟨⟨_, hba⟩, rfl⟩ := hw'
                    clear ne k0 k1 k2 k3
                    obtain ⟨q1, q2, q3, q4⟩ := pW wa hba
                    have IA := q4 gk
                    rw [← EK.out] at IA
                    have SA := (S9.ext hba).put (p := ⟨gr', x, none⟩) (by show gS ≠ gr'; omega) (.int .i64 gk)
                    have AA' := (A9.ext hba).put (p := ⟨gr', x, none⟩) (by show gA ≠ gr'; omega) (.int .i64 gk)
                    have TA := (T9.under hba l1).apart (p := ⟨gr', x, none⟩) (by show bs ≠ gr'; omega) (.int .i64 gk)
                    have HX := Lib.hid (And.intro IA (And.intro SA (And.intro AA' TA)))
                    clear IA SA AA' TA I9 S9 A9 T9 hba pW q4
                    go_wp2_with fail
                    go_roundw
                    case rel =>
                      refine ⟨j + 1, _, true, _, by omega, by go_num, rfl, IL, fun q s ha hs => .inl (hT2.out q s ha hs), fun i hi hq => ?_, HX.out.1, HX.out.2.1, HX.out.2.2.1, HX.out.2.2.2⟩
                      rcases Nat.lt_succ_iff_lt_or_eq.1 hi with h | h
                      · exact .inl (hT3.out i h hq)
                      · subst h; exact .inr ⟨HQ'.out, rfl⟩
                    case measure => simp [intOf]; omega
                  · have IL := Lib.hid (hH2.out.stay (q := d * W + a) (s := k) (by rw [hv.out, HOV.out]; exact hl))
                    go_wp2_with fail
                    go_roundw
                    case rel =>
                      refine ⟨j + 1, _, b2, _, by omega, by go_num, rfl, IL, fun q s ha hs => .inl (hT2.out q s ha hs), fun i hi hq => ?_, I9, S9, A9, T9⟩
                      rcases Nat.lt_succ_iff_lt_or_eq.1 hi with h | h
                      · exact .inl (hT3.out i h hq)
                      · subst h; exact .inr ⟨HQ'.out, rfl⟩
                    case measure => simp [intOf]; omega
                · have hv : Hid (max (O2 (d * W + a)) (G k) = oq) := by
                    rw [Hid, HOQ.out, HGK.out]; omega
                  clear h
                  refine (CS.out _ hb8).mono ?_
                  rintro e w9 ⟨rfl, hb9⟩
                  have hb89 : Below w7.heap.size w7 w9 := Ext.then_ hb8 hb9
                  have I9 := I8.step hb89 (by omega)
                  have S9 := S8.ext hb89
                  have A9 := A8.ext hb89
                  have T9 := T8.under hb89 tl
                  obtain ⟨ov, hov⟩ : ∃ v, O2 k = v := ⟨_, rfl⟩
                  rw [hov]
                  have HOV := Lib.hid hov
                  clear hov hb8 hb9 hb89 T8 u2 u3
                  by_cases hl : oq < ov
                  · have IL := Lib.hid (hH2.out.low AD.out (by rw [HGK.out]; exact gb.1) (by rw [HGK.out]; exact gb.2) (by rw [hv.out, HOV.out]; exact hl))
                    rw [hv.out] at IL
                    obtain ⟨g', gr', cy', e, p2, p4, p5, p6, pW⟩ := I9.putW hx hy (by omega)
                    simp only [Option.some.injEq, Addr.mk.injEq, and_true] at e
                    subst e
                    have z0 := I9.box.cell 0
                    have u2 := T9.cell 0
                    have u3 := T9.cell 1
                    simp at z0 u2 u3
                    have l0 := I9.box.lt
                    have l1 := T9.lt
                    have x0 : (0 : Int) ≤ (x : Int) := by omega
                    have x1 : (x : Int) < (W : Int) := by omega
                    have y0 : (0 : Int) ≤ (y : Int) := by omega
                    have y1 : (y : Int) < (H : Int) := by omega
                    go_wp2_with fail
                    refine wp_region_held_tail 10 (fun V => Below w9.heap.size w9 V) (by kernel_rfl) (by kernel_rfl) (Ext.refl _).drew ?_
                    simp only [List.take_succ_cons, List.take_zero, List.drop_succ_cons, List.drop_zero]
                    have ne : Nonempty (HeldW (fun V => Below w9.heap.size w9 V)) := ⟨⟨w9, Ext.refl _⟩⟩
                    have k0 : ∀ i : HeldW (fun V => Below w9.heap.size w9 V), i.w.cell? ⟨po, 0, none⟩ = some (.slice (some ⟨g, 0, none⟩) H c) := fun i => (i.h.cell (p := ⟨po, 0, none⟩) l0).trans z0
                    have k1 : ∀ i : HeldW (fun V => Below w9.heap.size w9 V), i.w.cell? ⟨bs, 0, none⟩ = some (.int .i64 x) := fun i => (i.h.cell (p := ⟨bs, 0, none⟩) l1).trans u2
                    have k2 : ∀ i : HeldW (fun V => Below w9.heap.size w9 V), i.w.cell? ⟨bs, 1, none⟩ = some (.int .i64 y) := fun i => (i.h.cell (p := ⟨bs, 1, none⟩) l1).trans u3
                    have k3 : ∀ i : HeldW (fun V => Below w9.heap.size w9 V), i.w.cell? ⟨g, y, none⟩ = some (.slice (some ⟨gr', 0, none⟩) W cy') := fun i => (pW i.w i.h).1
                    repeat (go_big_quiet_step (fail))
                    refine wpQuiet_nil ?_
                    intro wa hw'
                    obtain ⟨⟨_, hba⟩, rfl⟩ := hw'
                    clear ne k0 k1 k2 k3
                    obtain ⟨q1, q2, q3, q4⟩ := pW wa hba
                    have IA := q4 oq
                    rw [← EK.out] at IA
                    have SA := (S9.ext hba).put (p := ⟨gr', x, none⟩) (by show gS ≠ gr'; omega) (.int .i64 oq)
                    have AA' := (A9.ext hba).put (p := ⟨gr', x, none⟩) (by show gA ≠ gr'; omega) (.int .i64 oq)
                    have TA := (T9.under hba l1).apart (p := ⟨gr', x, none⟩) (by show bs ≠ gr'; omega) (.int .i64 oq)
                    have HX := Lib.hid (And.intro IA (And.intro SA (And.intro AA' TA)))
                    clear IA SA AA' TA I9 S9 A9 T9 hba pW q4
                    go_wp2_with fail
                    go_roundw
                    case rel =>
                      refine ⟨j + 1, _, true, _, by omega, by go_num, rfl, IL, fun q s ha hs => .inl (hT2.out q s ha hs), fun i hi hq => ?_, HX.out.1, HX.out.2.1, HX.out.2.2.1, HX.out.2.2.2⟩
                      rcases Nat.lt_succ_iff_lt_or_eq.1 hi with h | h
                      · exact .inl (hT3.out i h hq)
                      · subst h; exact .inr ⟨HQ'.out, rfl⟩
                    case measure => simp [intOf]; omega
                  · have IL := Lib.hid (hH2.out.stay (q := d * W + a) (s := k) (by rw [hv.out, HOV.out]; exact hl))
                    go_wp2_with fail
                    go_roundw
                    case rel =>
                      refine ⟨j + 1, _, b2, _, by omega, by go_num, rfl, IL, fun q s ha hs => .inl (hT2.out q s ha hs), fun i hi hq => ?_, I9, S9, A9, T9⟩
                      rcases Nat.lt_succ_iff_lt_or_eq.1 hi with h | h
                      · exact .inl (hT3.out i h hq)
                      · subst h; exact .inr ⟨HQ'.out, rfl⟩
                    case measure => simp [intOf]; omega
            · obtain rfl : j = 4 := by omega
              go_wp2_with fail
              go_roundw
              case rel =>
                refine ⟨k + 1, O2, b2, T2, by omega, by go_num, rfl, hH2, fun q s ha hs => ?_, I7, S7⟩
                by_cases e : s < k
                · exact hT2.out q s ha e
                · obtain rfl : s = k := by omega
                  have ha' := ha
                  rw [EK.out] at ha'
                  obtain ⟨i, hi, h1, h2⟩ := AA.out x y hx hy q ha'
                  have := hT3.out i hi h1
                  rwa [h2] at this
              case measure => simp [intOf]; omega
        · obtain rfl : k = n := by omega
          go_wp2_with fail
          go_roundw
          case rel =>
            refine ⟨O', b, rfl, hH.out.sound, hH.out.start, fun e => ?_, Im⟩
            subst e
            obtain ⟨rfl, h2⟩ := hH.out.no rfl
            exact fun q s ha => h2 q s ha (hT'.out q s ha ha.2.1)
          case measure =>
            rw [MH.out _ _ _ _ _ _ _ _ Im]
            cases b
            · obtain ⟨rfl, _⟩ := hH.out.no rfl
              show 2 * _ + 0 < 2 * _ + 1
              omega
            · have := hH.out.yes rfl
              show 2 * _ + 1 < 2 * _ + 1
              omega
end Go.Proofs.Ytkamkjbllmgifaa

namespace Go.Proofs.Ytkamkjbllmgifaa
open Go.RowKit

/-- Whether a place is at the edge. -/
def edgeB (W H i : Nat) : Bool := decide (i % W = 0) || decide (i / W = 0) || decide (i % W + 1 = W) || decide (i / W + 1 = H)
theorem edgeB_xy {W H x y : Nat} (hx : x < W) : edgeB W H (y * W + x) = (decide (x = 0) || decide (y = 0) || decide (x + 1 = W) || decide (y + 1 = H)) := by
  rw [edgeB, plD hx, plM hx]
end Go.Proofs.Ytkamkjbllmgifaa
