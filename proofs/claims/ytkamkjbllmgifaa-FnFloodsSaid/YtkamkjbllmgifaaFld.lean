/- Floods: the program's FloodMarks. -/
import Derived.Test.YtkamkjbllmgifaaFldD
import Derived.Test.YtkamkjbllmgifaaRemF
import Derived.Test.YtkamkjbllmgifaaWtrP
import Derived.Test.YtkamkjbllmgifaaB10G
namespace Go.Proofs.Ytkamkjbllmgifaa
open Go.RowKit

/-- What is held: the box of the picture that is made, its memory between lo and hi, the rest as it was. -/
structure FloInv (w0 : World) (lo hi po : Nat) (A : Option Addr) (c : Nat) (vs : List Value) (W H : Nat) (O : Nat → Int) (wr : World) : Prop where
  box : Blk wr po 26 #[.slice A H c]
  mat : MatAt wr lo hi A c vs (gO O W H)
  ext : Below lo w0 wr
  hp : lo ≤ hi ∧ hi ≤ po
section
variable {w0 : World} {lo hi po : Nat} {A : Option Addr} {c : Nat} {vs : List Value} {W H : Nat} {O : Nat → Int} {wr : World}
theorem FloInv.step (h : FloInv w0 lo hi po A c vs W H O wr) {w' : World} (hb : Below wr.heap.size wr w') : FloInv w0 lo hi po A c vs W H O w' :=
  ⟨h.box.under hb h.box.lt, h.mat.ext hb, h.ext.trans (hb.mono (by have := h.box.lt; have := h.hp; omega)), h.hp⟩
theorem FloInv.grey (h : FloInv w0 lo hi po A c vs W H O wr) : GreyAt wr po A c (gO O W H) :=
  ⟨h.box.lt, by rw [gO_length]; have := h.box.cell 0; simpa using this, h.mat.rd⟩
theorem FloInv.put (h : FloInv w0 lo hi po A c vs W H O wr) {x y : Nat} (hx : x < W) (hy : y < H) :
    ∃ g gr cy, A = some ⟨g, 0, none⟩ ∧ g < wr.heap.size ∧ wr.cell? ⟨g, y, none⟩ = some (.slice (some ⟨gr, 0, none⟩) W cy) ∧ lo ≤ gr ∧ gr < hi ∧ gr < wr.heap.size ∧ wr.frozen? ⟨gr, x, none⟩ = false ∧ wr.cell? ⟨gr, x, none⟩ = some (.int .i64 (O (y * W + x))) ∧
      ∀ v, FloInv w0 lo hi po A c vs W H (setF O (y * W + x) v) (wr.setCell ⟨gr, x, none⟩ (.int .i64 v)) := by
  have hy' : y < (gO O W H).length := by rw [gO_length]; exact hy
  have hx' : x < (gO O W H)[y].length := by rw [gO_w]; exact hx
  have hp := h.hp
  obtain ⟨g, gr, cy, a1, a2, a3, a4, a5, a6, a7, a8, a9⟩ := h.mat.put hy' hx'
  rw [gO_w] at a3
  rw [gO_get] at a8
  refine ⟨g, gr, cy, a1, a2, a3, a4, a5, a6, a7, a8, fun v => ⟨h.box.apart (p := ⟨gr, x, none⟩) (by show po ≠ gr; omega) _, ?_, h.ext.setCell (p := ⟨gr, x, none⟩) a4 _, hp⟩⟩
  have := a9 v
  rwa [gO_set O W H x y v hx hy] at this
theorem FloInv.putW (h : FloInv w0 lo hi po A c vs W H O wr) {x y : Nat} (hx : x < W) (hy : y < H) :
    ∃ g gr cy, A = some ⟨g, 0, none⟩ ∧ g < wr.heap.size ∧ lo ≤ gr ∧ gr < hi ∧ gr < wr.heap.size ∧ ∀ w', Below wr.heap.size wr w' →
      w'.cell? ⟨g, y, none⟩ = some (.slice (some ⟨gr, 0, none⟩) W cy) ∧ w'.frozen? ⟨gr, x, none⟩ = false ∧ w'.cell? ⟨gr, x, none⟩ = some (.int .i64 (O (y * W + x))) ∧
      ∀ v, FloInv w0 lo hi po A c vs W H (setF O (y * W + x) v) (w'.setCell ⟨gr, x, none⟩ (.int .i64 v)) := by
  obtain ⟨g, gr, cy, rfl, a2, a3, a4, a5, a6, _, _, _⟩ := h.put hx hy
  refine ⟨g, gr, cy, rfl, a2, a4, a5, a6, fun w' hb => ?_⟩
  obtain ⟨g', gr', cy', e, b2, b3, b4, b5, b6, b7, b8, b9⟩ := (h.step hb).put hx hy
  simp only [Option.some.injEq, Addr.mk.injEq, and_true] at e
  subst e
  have h3 := (hb.cell (p := ⟨g, y, none⟩) a2).trans a3
  have h4 := h3
  rw [b3] at h4
  simp only [Option.some.injEq, Value.slice.injEq, Addr.mk.injEq, and_true] at h4
  obtain ⟨rfl, _, rfl⟩ := h4
  exact ⟨h3, b7, b8, b9⟩
theorem FloInv.same {P : Nat → Int} (h : FloInv w0 lo hi po A c vs W H O wr) (k : FloInv w0 lo hi po A c vs W H P wr) : ∀ i, i < W * H → O i = P i := by
  intro i hi'
  have hW : 0 < W := by
    by_cases e : W = 0
    · subst e; omega
    · omega
  obtain ⟨e, hm⟩ := pl_eq (W := W) i hW
  have hr := pl_row hi'
  have e1 : i / W < (gO O W H).length := by rw [gO_length]; exact hr
  have e2 : i / W < (gO P W H).length := by rw [gO_length]; exact hr
  have := h.mat.rd.same k.mat.rd (y := i / W) (x := i % W) e1 (by rw [gO_w]; exact hm) e2 (by rw [gO_w]; exact hm)
  rw [gO_get, gO_get, ← e] at this
  exact this
theorem FloInv.chg {S : Nat → Prop} {w' : World} (h : FloInv w0 lo hi po A c vs W H O wr) (hc : Chg S wr w') (hS : ∀ b, S b → hi ≤ b ∧ b ≠ po) : FloInv w0 lo hi po A c vs W H O w' :=
  ⟨hc.blk h.box (fun e => (hS _ e).2 rfl), h.mat.keep hc (fun b _ h2 h3 => by have := (hS b h3).1; omega), h.ext.trans (hc.below (fun k hk => by have := (hS k hk).1; have := h.hp; omega) (by have := h.box.lt; have := h.hp; omega)), h.hp⟩
theorem cntM_congr {O P : Nat → Int} : ∀ n, (∀ i, i < n → O i = P i) → cntM O n = cntM P n
  | 0, _ => rfl
  | n + 1, h => by rw [cntM, cntM, cntM_congr n (fun i hi => h i (by omega)), h n (by omega)]
noncomputable def measC (w0 : World) (lo hi po : Nat) (A : Option Addr) (c : Nat) (vs : List Value) (W H : Nat) (wr : World) : Nat :=
  open Classical in if h : ∃ O, FloInv w0 lo hi po A c vs W H O wr then cntM h.choose (W * H) else 0
theorem measC_of (h : FloInv w0 lo hi po A c vs W H O wr) : measC w0 lo hi po A c vs W H wr = cntM O (W * H) := by
  have hx : ∃ O, FloInv w0 lo hi po A c vs W H O wr := ⟨O, h⟩
  rw [measC, dif_pos hx]
  exact cntM_congr _ (hx.choose_spec.same h)
end
def lenV : Value → Nat
  | .slice _ n _ => n
  | _ => 0
theorem own_wave {w : World} {base base' g n cap : Nat} {xs : List Value} (h : w.ownsRow base 80 3 (.slice (some ⟨g, 0, none⟩) n cap) n xs) (hb : base' ≤ base) {ys : List Value} {m : Nat} (hx : xs = ys) (hn : n = m) : w.ownsRow base' 80 3 (.slice (some ⟨g, 0, none⟩) m cap) m ys := by
  subst hx hn; exact own_base h hb
theorem gO_tabOk {O : Nat → Int} {W H : Nat} {most : Int} (hW0 : 0 < W) (hW : W ≤ 16) (hH0 : 0 < H) (hH : H ≤ 16) (h : ∀ i, i < W * H → 0 ≤ O i ∧ O i ≤ most) : tabOk most (gO O W H) = true := by
  refine tab_yes (by simp only [tabSz, Bool.and_eq_true, inB_iff, tabW_gO O hH0, gO_length]; omega) (fun j hj => ?_)
  have hj' : j < H := by rw [gO_length] at hj; exact hj
  simp only [rowN, Bool.and_eq_true, decide_eq_true_eq, List.all_eq_true, inB_iff, tabW_gO O hH0]
  refine ⟨gO_w O W H j hj, fun n hn => ?_⟩
  rw [gO_row O W H j hj] at hn
  obtain ⟨x, hx, rfl⟩ := List.mem_map.1 hn
  exact h _ (pl_lt (List.mem_range.1 hx) hj')
theorem Chg.of_row {w w' : World} {row : Option Nat} (h : w.grownBy w' row) : Chg (fun b => row = some b) w w' :=
  ⟨h.os, h.tape, h.output, h.size, fun k hk hs => h.block k hk (fun e => hs e.symm)⟩
/-- The places with a mark among the first k, with their heights. -/
def sdL (G M : Nat → Int) (k : Nat) : List (Nat × Int) := ((List.range k).filter fun i => M i != 0).map fun i => (i, G i)
theorem sdL_yes {G M : Nat → Int} {k : Nat} (h : M k ≠ 0) : sdL G M (k + 1) = sdL G M k ++ [(k, G k)] := by
  simp [sdL, List.range_succ, List.filter_append, h]
theorem sdL_no {G M : Nat → Int} {k : Nat} (h : M k = 0) : sdL G M (k + 1) = sdL G M k := by
  simp [sdL, List.range_succ, List.filter_append, h]
theorem sdL_len (G M : Nat → Int) : ∀ k, (sdL G M k).length = cntM M k
  | 0 => rfl
  | k + 1 => by
    by_cases h : M k = 0
    · rw [sdL_no h, sdL_len G M k, cntM, if_pos h]; rfl
    · rw [sdL_yes h, List.length_append, sdL_len G M k, cntM, if_neg h]; rfl
theorem sdL_mem {G M : Nat → Int} {k : Nat} {p : Nat × Int} : p ∈ sdL G M k ↔ p.1 < k ∧ M p.1 ≠ 0 ∧ p.2 = G p.1 := by
  obtain ⟨a, b⟩ := p
  simp [sdL]
  constructor
  · rintro ⟨x, ⟨h1, h2⟩, rfl, rfl⟩; exact ⟨h1, h2, rfl⟩
  · rintro ⟨h1, h2, rfl⟩; exact ⟨a, ⟨h1, h2⟩, rfl, rfl⟩
/-- The flood has ended. -/
def FlRes (W H : Nat) (G M : Nat → Int) (w : World) (e : Ending) (w' : World) : Prop :=
  ∃ A c O hh L, e = .returned (.tuple #[.slice A H c, .bool true]) ∧ MatRd w' A (gO O W H) ∧ Hid (FlI W (W * H) G M O hh [] L) ∧ Below w.heap.size w w'
theorem enters_greyAt : Enters 41 := enters_of Try.func41 (by kernel_rfl) (by kernel_rfl)
set_option maxRecDepth 100000 in
set_option maxHeartbeats 8000000 in
theorem flood_any (A0 B0 : Option Addr) (c0 d0 W H : Nat) (G M : Nat → Int) (w : World) (hA : MatRd w A0 (gO G W H)) (hB : MatRd w B0 (gO M W H)) (hW0 : 0 < W) (hW : W ≤ 16) (hH0 : 0 < H) (hH : H ≤ 16) (hG : ∀ i, i < W * H → 0 ≤ G i ∧ G i ≤ 99) (hM : ∀ i, i < W * H → 0 ≤ M i ∧ M i ≤ 9) (hs : ∃ r, r < W * H ∧ M r ≠ 0) :
    Calls Try.prog 19 #[.agg #[.slice A0 H c0], .slice B0 H d0] w (FlRes W H G M w) := by
  have T0 := Blk.made w 26 #[.slice A0 H c0]
  have BE0 : Below w.heap.size w (w.alloc (.cells #[.slice A0 H c0] 26)) := Ext.more (Ext.refl _) _
  have lG : (gO G W H).length = H := gO_length _ _ _
  have lM : (gO M W H).length = H := gO_length _ _ _
  have rG : ∀ y (hy : y < (gO G W H).length), (gO G W H)[y].length = W := fun y hy => gO_w G W H y hy
  have rM : ∀ y (hy : y < (gO M W H).length), (gO M W H)[y].length = W := fun y hy => gO_w M W H y hy
  have okG : greyOk (gO G W H) = true := gO_tabOk hW0 hW hH0 hH hG
  have okM : tabOk 9 (gO M W H) = true := gO_tabOk hW0 hW hH0 hH hM
  have VG := Lib.hid (fun V (hb : Below w.heap.size w V) => validGrey_any A0 c0 (gO G W H) V (hA.ext hb) (by rw [lG]; omega) (fun i hi => by rw [rG]; omega))
  have RO := Lib.hid (fun V (hb : Below w.heap.size w V) => rowsOk_any B0 d0 (gO M W H) 9 V (hB.ext hb) (by rw [lM]; omega) (fun i hi => by rw [rM]; omega))
  rw [okG, lG] at VG
  rw [okM, lM] at RO
  have XA := Lib.hid (fun V (hb : Below w.heap.size w V) => hA.ext hb)
  have XB := Lib.hid (fun V (hb : Below w.heap.size w V) => hB.ext hb)
  obtain ⟨gA, rfl, hgA, hcA⟩ := hA (by rw [lG]; exact hH0)
  obtain ⟨gB, rfl, hgB, hcB⟩ := hB (by rw [lM]; exact hH0)
  obtain ⟨A1, a1, k1, _⟩ := hcA 0 (by rw [lG]; exact hH0)
  obtain ⟨B1, b1, k2, _⟩ := hcB 0 (by rw [lM]; exact hH0)
  rw [rG] at k1
  rw [rM] at k2
  have HG := Lib.hid hG
  have HM := Lib.hid hM
  have HS := Lib.hid hs
  have z0 : Hid ((w.alloc (.cells #[.slice (some ⟨gA, 0, none⟩) H c0] 26)).heap.size = w.heap.size + 1) := by simp [Hid]
  have kA := (BE0.cell (p := ⟨gA, 0, none⟩) hgA).trans k1
  have kB := (BE0.cell (p := ⟨gB, 0, none⟩) hgB).trans k2
  have qH : ((H : Int) != (H : Int)) = false := by simp
  have qW : ((W : Int) != (W : Int)) = false := by simp
  have lT := T0.lt
  have i0 : (0 : Int) < (H : Int) := by omega
  clear hcA hcB k1 k2 hG hM hs hA hB
  go_enter Try.func19, Try.ntmps19
  go_wp2_with fail
  generalize w.alloc (.cells #[.slice (some ⟨gA, 0, none⟩) H c0] 26) = w1 at *
  have kT := T0.cell 0
  simp at kT
  refine wp_region_held_quiet (fun U => Below w1.heap.size w1 U) (by kernel_rfl) (by kernel_rfl) (Ext.refl _).drew ?_
  have ne : Nonempty (HeldW (fun U => Below w1.heap.size w1 U)) := ⟨⟨w1, Ext.refl _⟩⟩
  have v0 : ∀ i : HeldW (fun U => Below w1.heap.size w1 U), i.w.cell? ⟨w.heap.size, 0, none⟩ = _ := fun i => (i.h.cell (p := ⟨w.heap.size, 0, none⟩) lT).trans kT
  have v1 : ∀ i : HeldW (fun U => Below w1.heap.size w1 U), i.w.cell? ⟨gA, 0, none⟩ = _ := fun i => (i.h.cell (p := ⟨gA, 0, none⟩) (Nat.lt_trans hgA lT)).trans kA
  have v2 : ∀ i : HeldW (fun U => Below w1.heap.size w1 U), i.w.cell? ⟨gB, 0, none⟩ = _ := fun i => (i.h.cell (p := ⟨gB, 0, none⟩) (Nat.lt_trans hgB lT)).trans kB
  repeat (go_big_quiet_step ((first | (go_at_call 38; exact Calls.above_of _ (VG.out _ (Ext.then_ BE0 (HeldW.h _)))) | (go_at_call 50; exact Calls.above_of _ (RO.out _ (Ext.then_ BE0 (HeldW.h _)))))))
  refine wpQuiet_nil ?_
  intro w2 hw'
  obtain ⟨⟨_, hb2⟩, rfl⟩ := hw'
  clear ne v0 v1 v2
  have BE2 := Ext.then_ BE0 hb2
  have T2 := T0.under hb2 lT
  clear VG RO kA kB kT hb2 T0 BE0 lT hgA hgB okG okM rG rM qH qW
  go_wp2_with fail
  have TS := Blk.made w2 26 #[.slice (some ⟨gB, 0, none⟩) H d0]
  have GS3 : GreyAt (w2.alloc (.cells #[.slice (some ⟨gB, 0, none⟩) H d0] 26)) w2.heap.size (some ⟨gB, 0, none⟩) d0 (gO M W H) := ⟨TS.lt, by rw [lM]; simp, (XB.out _ BE2).ext (Ext.more (Ext.refl _) _)⟩
  have T3 := T2.more (.cells #[.slice (some ⟨gB, 0, none⟩) H d0] 26)
  have BE3 : Below w.heap.size w (w2.alloc (.cells #[.slice (some ⟨gB, 0, none⟩) H d0] 26)) := Ext.more BE2 _
  have HB2 := Lib.hid BE2
  clear TS T2 BE2
  obtain ⟨b1, hb1⟩ : ∃ b1, w2.heap.size = b1 := ⟨_, rfl⟩
  rw [hb1] at GS3
  simp only [hb1]
  generalize w2.alloc (.cells #[.slice (some ⟨gB, 0, none⟩) H d0] 26) = w3 at *
  have RM := Lib.hid (remadeF_any b1 (some ⟨gB, 0, none⟩) d0 (gO M W H) 41 b1 M W H w3 GS3 (tabW_gO M hH0) lM hH0 (by omega) (by omega) enters_greyAt (fun x y hx hy wr hb => gO_at (GS3.ext hb) hx hy))
  refine RM.out.mono ?_
  rintro e w4 ⟨A, c, vs, rfl, hm, hb4⟩
  have T4 := ((T3.under hb4 T3.lt).more (.cells #[] 80)).more (.cells #[.slice A H c] 26)
  have BE4 : Below w.heap.size w ((w4.alloc (.cells #[] 80)).alloc (.cells #[.slice A H c] 26)) := Ext.more (Ext.more (Ext.then_ BE3 hb4) _) _
  have I0 : FloInv w3 w3.heap.size w4.heap.size (w4.heap.size + 1) A c vs W H M ((w4.alloc (.cells #[] 80)).alloc (.cells #[.slice A H c] 26)) := ⟨by
    have := Blk.made (w4.alloc (.cells #[] 80)) 26 #[.slice A H c]
    simpa using this, (hm.ext (Ext.more (Ext.refl _) _)).ext (Ext.more (Ext.refl _) _), Ext.more (Ext.more hb4 _) _, hb4.size, Nat.le_succ _⟩
  have O0 : ((w4.alloc (.cells #[] 80)).alloc (.cells #[.slice A H c] 26)).ownsRow w4.heap.size 80 3 (.slice (some ⟨w4.heap.size, 0, none⟩) 0 0) 0 (wvC W []) := (World.ownsRow_lit (e := 80) (size := 3) w4 #[] 0 (Nat.le_refl _) (by decide) rfl).alloc _
  have hlo : w.heap.size < w3.heap.size := T3.lt
  have BW := Lib.hid (fun O wr (I : FloInv w3 w3.heap.size w4.heap.size (w4.heap.size + 1) A c vs W H O wr) => BE3.trans (I.ext.mono (show w.heap.size ≤ w3.heap.size by omega)))
  have GX := Lib.hid (fun V (hb : Below w.heap.size w V) (hT : Blk V w.heap.size 26 #[.slice (some ⟨gA, 0, none⟩) H c0]) => (show GreyAt V w.heap.size (some ⟨gA, 0, none⟩) c0 (gO G W H) from ⟨hT.lt, by rw [lG]; simpa using hT.cell 0, XA.out V hb⟩))
  have GA := Lib.hid (fun V (hV : GreyAt V w.heap.size (some ⟨gA, 0, none⟩) c0 (gO G W H)) (x y : Nat) (hx : x < W) (hy : y < H) => gO_at hV hx hy)
  have OA := Lib.hid (fun V (O : Nat → Int) (hV : GreyAt V (w4.heap.size + 1) A c (gO O W H)) (x y : Nat) (hx : x < W) (hy : y < H) => gO_at hV hx hy)
  have OH := Lib.hid (fun V (O : Nat → Int) (hV : GreyAt V (w4.heap.size + 1) A c (gO O W H)) (x y : Int) => g_has hV (tabW_gO O hH0) (gO_length O W H) (by omega) (by omega) (by omega) x y)
  have SPC := Lib.hid (fun V (hV : GreyAt V (w4.heap.size + 1) A c (gO M W H)) => spots_any' (w4.heap.size + 1) A c (gO M W H) W V hV (by omega) (by rw [lM]; omega) (fun y hy => gO_w M W H y hy))
  rw [lM, Nat.mul_comm H W] at SPC
  have PR := Lib.hid (fun (i : Nat) (hi : i < W * H) => pl_row hi)
  have MCO := Lib.hid (fun O wr (h : FloInv w3 w3.heap.size w4.heap.size (w4.heap.size + 1) A c vs W H O wr) => measC_of h)
  have AL := Lib.hid (fun (x y : Nat) (hx : x < W) (hy : y < H) k hk hq => arL_adj (H := H) hx hy k hk hq)
  have AA := Lib.hid (fun (x y : Nat) (hx : x < W) (hy : y < H) j hj => arL_all (H := H) (j := j) hx hy hj)
  have hnl : W * H ≤ 256 := Nat.le_trans (Nat.mul_le_mul hW hH) (by decide)
  have SL := Lib.hid (fun k => sdL_len G M k)
  have ST : Hid (FlI W (W * H) G M M G (sdL G M (W * H)) 0) := FlI.start HM.out (fun i hi => (HG.out i hi).1) (fun p hp => sdL_mem.1 hp) (fun i hi hM => ⟨(i, G i), sdL_mem.2 ⟨hi, hM, rfl⟩, rfl⟩) (by rw [sdL_len]; exact Nat.le_refl _)
  obtain ⟨n, hn⟩ : ∃ n, W * H = n := ⟨_, rfl⟩
  obtain ⟨b0, hb0⟩ : ∃ b0, w.heap.size = b0 := ⟨_, rfl⟩
  obtain ⟨lo, hlo'⟩ : ∃ lo, w3.heap.size = lo := ⟨_, rfl⟩
  obtain ⟨hi, hhi⟩ : ∃ hi, w4.heap.size = hi := ⟨_, rfl⟩
  have HN := Lib.hid hn
  have HB0 := Lib.hid hb0
  simp only [hn] at SPC PR MCO AL AA hnl ST
  simp only [hlo', hhi] at BW MCO I0 O0 hlo GA OA OH SPC
  simp only [hb0] at GX GA BW hlo T4 BE4
  clear RM GS3 hm hb4 BE3 T3 hb1 hn
  go_wp2_with fail
  try simp only [hb0]
  try simp only [hhi]
  generalize (w4.alloc (.cells #[] 80)).alloc (.cells #[.slice A H c] 26) = wA at *
  have HLO := Lib.hid hlo'
  clear hb0 hlo' hhi BE4
  refine (SPC.out _ I0.grey).mono ?_
  rintro e w5 ⟨gS, cS, rfl, oS, hb5⟩
  have SP := own_base oS (show hi ≤ wA.heap.size by have := I0.box.lt; omega)
  have I5 := I0.step hb5
  have T5 := T4.under hb5 T4.lt
  have O5 := own_ext hb5 O0
  have hgS : hi + 1 < gS := by have := (oS.lt gS rfl).1; have := I0.box.lt; omega
  clear oS hb5 I0 T4 O0 SPC
  go_wp2_with fail
  go_loopw [8, 52] (fun v iv wr => ∃ (k m gw cw : Nat), k ≤ n ∧ iv = .int .i64 k ∧ v = .slice (some ⟨gw, 0, none⟩) m cw ∧ Hid ((sdL G M k).length = m) ∧ m ≤ k ∧ wr.ownsRow hi 80 3 (.slice (some ⟨gw, 0, none⟩) m cw) m (wvC W (sdL G M k)) ∧ FloInv w3 lo hi (hi + 1) A c vs W H M wr ∧ wr.ownsRow hi 39 2 (.slice (some ⟨gS, 0, none⟩) n cS) n (spL (spG W n)) ∧ Blk wr b0 26 #[.slice (some ⟨gA, 0, none⟩) H c0]) (fun _ iv _ => n - (intOf iv).toNat)
  case atStart => exact ⟨0, 0, _, _, Nat.zero_le _, rfl, rfl, rfl, Nat.le_refl _, O5, I5, SP, T5⟩
  case round =>
    obtain ⟨k, m, gw, cw, hk, rfl, rfl, hm, hmk, Om, Im, Sm, Tm⟩ := hrel
    clear O5 I5 SP T5
    by_cases hlt : k < n
    · have hx : k % W < W := Nat.mod_lt _ (by omega)
      have hy : k / W < H := PR.out k hlt
      have hkl : k < (spG W n).length := by rw [spG_length]; exact hlt
      obtain ⟨c1, c2⟩ := (own_spots Sm (spG_length W n)).2 k hkl
      have ek : k = k / W * W + k % W := (pl_eq k (by omega)).1
      simp only [spG, List.getElem_map, List.getElem_range] at c1 c2
      have WV : Hid (wvV W (k, G k) = [.int .i64 ((k % W : Nat) : Int), .int .i64 ((k / W : Nat) : Int), .int .i64 (G k)]) := rfl
      generalize k % W = x at *
      generalize k / W = y at *
      have EK := Lib.hid ek
      clear ek
      have i0 : (0 : Int) ≤ (k : Int) := by omega
      have i1 : (k : Int) < (n : Int) := by omega
      have hgS1 := (Sm.lt gS rfl).2
      go_wp2_with fail
      have EX := Ext.more (Ext.refl wr) (.cells #[.int .i64 x, .int .i64 y] 39)
      have SB := own_ext EX Sm
      have IB := Im.step EX
      have OB := own_ext EX Om
      have TB := Tm.under EX Tm.lt
      have XB := Blk.made wr 39 #[.int .i64 x, .int .i64 y]
      obtain ⟨bs, hbs⟩ : ∃ bs, wr.heap.size = bs := ⟨_, rfl⟩
      rw [hbs] at XB hgS1
      simp only [hbs]
      have hbs0 : hi + 1 < bs := by have := Im.box.lt; omega
      generalize wr.alloc (.cells #[.int .i64 x, .int .i64 y] 39) = wn at *
      clear c1 c2 Im Sm Om Tm EX hbs
      have u0 := XB.cell 0
      have u1 := XB.cell 1
      simp at u0 u1
      go_wp2_with fail
      refine (OA.out _ M IB.grey x y hx hy).mono ?_
      rintro e w6 ⟨rfl, hb6⟩
      rw [← EK.out]
      have S6 := own_ext hb6 SB
      have I6 := IB.step hb6
      have O6 := own_ext hb6 OB
      have T6 := TB.under hb6 TB.lt
      have X6 := XB.under hb6 XB.lt
      clear SB IB OB TB XB u0 u1 hb6
      by_cases hz : M k = 0
      · have q0 : (M k != 0) = false := by simp [hz]
        have S0 : Hid (sdL G M (k + 1) = sdL G M k) := sdL_no hz
        clear hz
        go_wp2_with fail
        go_roundw
        case rel => exact ⟨k + 1, m, gw, cw, by omega, by go_num, rfl, by rw [Hid, S0.out]; exact hm.out, by omega, by rw [S0.out]; exact O6, I6, S6, T6⟩
        case measure => simp [intOf]; omega
      · have q0 : (M k != 0) = true := by simp [hz]
        have S0 : Hid (sdL G M (k + 1) = sdL G M k ++ [(k, G k)]) := sdL_yes hz
        have u0 := X6.cell 0
        have u1 := X6.cell 1
        simp at u0 u1
        have l0 := X6.lt
        have l1 : b0 < w6.heap.size := T6.lt
        have B6 := BW.out _ _ I6
        have GZ := Lib.hid (fun V (hb : Below w6.heap.size w6 V) => GX.out V (B6.trans (hb.mono (by omega))) (T6.under hb T6.lt))
        have hgw := O6.lt gw rfl
        have zz : hi < w6.heap.size := by omega
        clear hz
        go_wp2_with fail
        go_region_law (first
            | (refine step_app waveT (by rfl) _ _ (by rfl) hi (.slice (some ⟨gw, 0, none⟩) m cw) m (wvC W (sdL G M k)) (by rfl) ((own_ext hb' O6).alloc _) w7.heap.size #[.int .i64 x, .int .i64 y, .int .i64 (G (y * W + x))] (by rfl) (by exact heap_alloc_new w7 _) rfl (by simp [Value.oneCell']) (by omega) (by have := hb'.size; simp at *; omega) ?_; intro g8 c8 w8 own8 hg8 hat8 hlt8)
            | (go_simp; go_at_call 41; refine (GA.out _ (GZ.out _ (Ext.draw (Ext.refl _))) x y hx hy).mono ?_; rintro e w7 ⟨rfl, hb'⟩; have d0 := (hb'.cell (p := ⟨bs, 0, none⟩) l0).trans u0; have d1 := (hb'.cell (p := ⟨bs, 1, none⟩) l0).trans u1))
        all_goals
          have hb7 : Below w6.heap.size w6 w7 := Ext.undraw hb'
          have gp : gw ≠ hi + 1 := fun e => own_blk_ne O6 I6.box (by decide) (by rw [e]; rfl)
          have I8 := ((I6.step hb7).step (Ext.more (Ext.refl _) (.cells #[.int .i64 x, .int .i64 y, .int .i64 (G (y * W + x))] 80))).chg (Chg.of_row hg8) (fun b hb => by
            have : gw = b := by simpa [Value.ownBlock] using hb
            subst this; exact ⟨hgw.1, gp⟩)
          have T8 := ((T6.under hb7 T6.lt).more (.cells #[.int .i64 x, .int .i64 y, .int .i64 (G (y * W + x))] 80)).by_grown hg8 (fun e => by have := Option.some.inj (show some b0 = some gw from e); have := hgw.1; have := I6.hp; omega)
          have S8 := ((own_ext hb7 S6).alloc (.cells #[.int .i64 x, .int .i64 y, .int .i64 (G (y * W + x))] 80)).kept hg8 (.inr (fun e => own_own_ne S6 O6 (by decide) rfl e.symm))
          have O8 := own_wave own8 (Nat.le_refl _) (ys := wvC W (sdL G M (k + 1))) (by rw [S0.out, wvC_app]; simp [wvC, WV.out]; rw [← EK.out]) rfl
          have SN : Hid ((sdL G M (k + 1)).length = m + 1) := by rw [Hid, S0.out, List.length_append, hm.out]; rfl
          clear own8 hg8 hat8 hlt8 hb' hb7 d0 d1 u0 u1
          go_wp2_with fail
          go_roundw
          case rel => exact ⟨k + 1, m + 1, g8, c8, by omega, by go_num, rfl, SN, by omega, O8, I8, S8, T8⟩
          case measure => simp [intOf]; omega
    · obtain rfl : n = k := by omega
      have mpos : 0 < m := by
        obtain ⟨r, hr, hMr⟩ := HS.out
        rw [HN.out] at hr
        have h1 := (sdL_mem (G := G) (p := (r, G r))).2 ⟨hr, hMr, rfl⟩
        have h2 := List.length_pos_of_mem h1
        have h3 := hm.out
        omega
      have q0 : ((m : Int) == 0) = false := by rw [beq_eq_false_iff_ne]; omega
      clear hlt hk Sm mpos SL
      go_wp2_with fail
      go_loopw [8] (fun v wr => ∃ (O hh : Nat → Int) (L : Int) (wt : List (Nat × Int)) (gw m cw : Nat), v = .slice (some ⟨gw, 0, none⟩) m cw ∧ Hid (wt.length = m) ∧ m ≤ n ∧ Hid (FlI W n G M O hh wt L) ∧ wr.ownsRow hi 80 3 (.slice (some ⟨gw, 0, none⟩) m cw) m (wvC W wt) ∧ FloInv w3 lo hi (hi + 1) A c vs W H O wr ∧ Blk wr b0 26 #[.slice (some ⟨gA, 0, none⟩) H c0]) (fun v wr => 2 * (n - measC w3 lo hi (hi + 1) A c vs W H wr) + lenV v)
      case atStart => exact ⟨M, G, 0, sdL G M n, gw, m, cw, rfl, hm, hmk, ST, Om, Im, Tm⟩
      case round =>
        obtain ⟨O, hh, L, wt, gw, m, cw, rfl, hwl, hmn, hF, Om, Im, Tm⟩ := hrel
        clear ST q0 hmk hm
        by_cases hm0 : m = 0
        · subst hm0
          obtain rfl : wt = [] := List.length_eq_zero_iff.1 hwl.out
          have c0 := Im.box.cell 0
          simp at c0
          have lb := Im.box.lt
          have FIN : Hid (FlRes W H G M w (.returned (.tuple #[.slice A H c, .bool true])) wr) := ⟨A, c, O, hh, L, rfl, Im.mat.rd, by rw [HN.out]; exact hF.out, by rw [HB0.out]; exact BW.out _ _ Im⟩
          clear Im Om Tm hF
          go_wp2_with fail
          go_ret2
          exact FIN.out
        · have mpos : 0 < m := by omega
          have q0 : (0 : Int) < (m : Int) := by omega
          have ME := Lib.hid (MCO.out O wr Im)
          have CL := Lib.hid (cntM_le O n)
          rw [ME.out]
          have Z0 : Hid (∀ j (h : j < wt.length), j < 0 → (wt[0]'(by rw [hwl.out]; exact mpos)).2 ≤ wt[j].2) := fun _ _ h => absurd h (Nat.not_lt_zero _)
          clear hm0
          go_wp2_with fail
          go_loopw [11, 75] (fun kv iv wx => ∃ k i : Nat, i ≤ m ∧ iv = .int .i64 i ∧ kv = .int .i64 k ∧ k < m ∧ Hid (∀ (hk : k < wt.length) j (h : j < wt.length), j < i → wt[k].2 ≤ wt[j].2) ∧ wx.ownsRow hi 80 3 (.slice (some ⟨gw, 0, none⟩) m cw) m (wvC W wt) ∧ FloInv w3 lo hi (hi + 1) A c vs W H O wx ∧ Blk wx b0 26 #[.slice (some ⟨gA, 0, none⟩) H c0]) (fun _ iv _ => m - (intOf iv).toNat)
          case atStart => exact ⟨0, 0, Nat.zero_le _, rfl, rfl, mpos, fun _ => Z0.out, Om, Im, Tm⟩
          case round =>
            obtain ⟨k, i, hi', rfl, rfl, hkm, hmin, Ox, Ix, Tx⟩ := hrel
            clear Om Im Tm Z0
            by_cases hlt : i < m
            · have hiw : i < wt.length := by rw [hwl.out]; exact hlt
              have hkw : k < wt.length := by rw [hwl.out]; exact hkm
              have c0 := Ox.cellAt (i * 3 + 0) (by omega)
              have c1 := Ox.cellAt (i * 3 + 1) (by omega)
              have c2 := Ox.cellAt (i * 3 + 2) (by omega)
              have d2 := Ox.cellAt (k * 3 + 2) (by omega)
              rw [wvC_at W wt i hiw _ (by omega)] at c0 c1 c2
              rw [wvC_at W wt k hkw _ (by omega)] at d2
              simp only [wvV, List.getElem?_cons_zero, List.getElem?_cons_succ, Nat.add_zero] at c0 c1 c2 d2
              obtain ⟨vi, hvi⟩ : ∃ v, (wt[i]).2 = v := ⟨_, rfl⟩
              obtain ⟨vk, hvk⟩ : ∃ v, (wt[k]).2 = v := ⟨_, rfl⟩
              rw [hvi] at c2
              rw [hvk] at d2
              have HVI := Lib.hid hvi
              have HVK := Lib.hid hvk
              clear hvi hvk
              generalize (((wt[i]).1 % W : Nat) : Int) = vx at *
              generalize (((wt[i]).1 / W : Nat) : Int) = vy at *
              have i0 : (0 : Int) ≤ (i : Int) := by omega
              have i1 : (i : Int) < (m : Int) := by omega
              have i2 : (0 : Int) ≤ (k : Int) := by omega
              have i3 : (k : Int) < (m : Int) := by omega
              have lw := (Ox.lt gw rfl).2
              go_wp2_with fail
              have EX := Ext.more (Ext.refl wr) (.cells #[.int .i64 vx, .int .i64 vy, .int .i64 vi] 80)
              have OB := own_ext EX Ox
              have IB := Ix.step EX
              have TB := Tx.under EX Tx.lt
              have XB := Blk.made wr 80 #[.int .i64 vx, .int .i64 vy, .int .i64 vi]
              have e2 := (EX.cell (p := ⟨gw, k * 3 + 2, none⟩) lw).trans d2
              clear c0 c1 c2 d2 Ox Ix Tx EX
              generalize wr.alloc (.cells #[.int .i64 vx, .int .i64 vy, .int .i64 vi] 80) = wn at *
              have u2 := XB.cell 2
              simp at u2
              by_cases hless : vi < vk
              · have NX : Hid (∀ (hk : i < wt.length) j (h : j < wt.length), j < i + 1 → wt[i].2 ≤ wt[j].2) := fun _ j hj hji => by
                  have h1 := HVI.out
                  have h2 := HVK.out
                  rcases Nat.lt_succ_iff_lt_or_eq.1 hji with h3 | rfl
                  · have := hmin.out hkw j hj h3; omega
                  · exact Int.le_refl _
                have hdl : decide (vi < vk) = true := decide_eq_true hless
                go_wp2_with fail
                go_quiet (fail)
                go_wp2_with fail
                go_roundw
                case rel => exact ⟨i, i + 1, by omega, by go_num, rfl, hlt, NX, OB, IB.step (Ext.drawN (Ext.refl _) _), TB.under (Ext.drawN (Ext.refl _) _) TB.lt⟩
                case measure => simp [intOf]; omega
              · have NX : Hid (∀ (hk : k < wt.length) j (h : j < wt.length), j < i + 1 → wt[k].2 ≤ wt[j].2) := fun _ j hj hji => by
                  have h1 := HVI.out
                  have h2 := HVK.out
                  rcases Nat.lt_succ_iff_lt_or_eq.1 hji with h3 | rfl
                  · exact hmin.out hkw j hj h3
                  · omega
                have hdl : decide (vi < vk) = false := decide_eq_false hless
                go_wp2_with fail
                go_quiet (fail)
                go_wp2_with fail
                go_roundw
                case rel => exact ⟨k, i + 1, by omega, by go_num, rfl, hkm, NX, OB, IB.step (Ext.drawN (Ext.refl _) _), TB.under (Ext.drawN (Ext.refl _) _) TB.lt⟩
                case measure => simp [intOf]; omega
            · obtain rfl : m = i := by omega
              have hkw : k < wt.length := by rw [hwl.out]; exact hkm
              have c0 := Ox.cellAt (k * 3 + 0) (by omega)
              have c1 := Ox.cellAt (k * 3 + 1) (by omega)
              have c2 := Ox.cellAt (k * 3 + 2) (by omega)
              rw [wvC_at W wt k hkw _ (by omega)] at c0 c1 c2
              simp only [wvV, List.getElem?_cons_zero, List.getElem?_cons_succ, Nat.add_zero] at c0 c1 c2
              have PP := Lib.hid (hF.out.pop k hkw (fun p hp => by
                obtain ⟨j, hj, rfl⟩ := List.getElem_of_mem hp
                exact hmin.out hkw j hj (by have := hwl.out; omega)))
              have SK := Lib.hid (strike_any hi gw cw m k W wt)
              have WE : Hid ((wt.eraseIdx k).length = m - 1) := by rw [Hid, List.length_eraseIdx, if_pos hkw, hwl.out]
              have hpn := PP.out.qn
              obtain ⟨p, hp⟩ : ∃ p, (wt[k]).1 = p := ⟨_, rfl⟩
              obtain ⟨h, hh'⟩ : ∃ h, (wt[k]).2 = h := ⟨_, rfl⟩
              rw [hp] at c0 c1 PP hpn
              rw [hh'] at c2 PP
              have hx : p % W < W := Nat.mod_lt _ (by omega)
              have hy : p / W < H := PR.out p hpn
              have ek : p = p / W * W + p % W := (pl_eq p (by omega)).1
              have hpO := Lib.hid PP.out.qO
              clear hp hh' hmin hF
              generalize p % W = x at *
              generalize p / W = y at *
              have EK := Lib.hid ek
              clear ek
              have i2 : (0 : Int) ≤ (k : Int) := by omega
              have i3 : (k : Int) < (m : Int) := by omega
              have lw := (Ox.lt gw rfl).2
              go_wp2_with fail
              have EX := Ext.more (Ext.refl wr) (.cells #[.int .i64 x, .int .i64 y, .int .i64 h] 80)
              have OB := own_ext EX Ox
              have IB := Ix.step EX
              have TB := Tx.under EX Tx.lt
              have XB := Blk.made wr 80 #[.int .i64 x, .int .i64 y, .int .i64 h]
              have hgw := Ox.lt gw rfl
              have hbwl := Ix.box.lt
              obtain ⟨bw, hbw⟩ : ∃ bw, wr.heap.size = bw := ⟨_, rfl⟩
              rw [hbw] at XB lw hbwl
              have HBW := Lib.hid hbw
              try simp only [hbw]
              clear c0 c1 c2 Ox Ix Tx EX hbw
              generalize wr.alloc (.cells #[.int .i64 x, .int .i64 y, .int .i64 h] 80) = wn at *
              refine (SK.out wn OB hwl.out hkm (by omega)).mono ?_
              rintro e w7 ⟨rfl, O7, C7⟩
              have I7 := IB.chg C7 (fun b hb => by subst hb; exact ⟨hgw.1, fun e => own_blk_ne OB IB.box (by decide) (by rw [e]; rfl)⟩)
              have T7 := C7.blk TB (fun e => by have := hgw.1; have := IB.hp; omega)
              have X7 := C7.blk XB (fun e => by omega)
              have z7 := C7.size
              have lb7 := XB.lt
              clear SK OB IB TB XB C7
              have u0 := X7.cell 0
              have u1 := X7.cell 1
              simp at u0 u1
              go_wp2_with fail
              have EX := Ext.more (Ext.refl w7) (.cells #[.int .i64 (x : Int), .int .i64 ((y : Int) - 1), .int .i64 ((x : Int) - 1), .int .i64 (y : Int), .int .i64 ((x : Int) + 1), .int .i64 (y : Int), .int .i64 (x : Int), .int .i64 ((y : Int) + 1)] 39)
              have R8 : (w7.alloc (.cells #[.int .i64 (x : Int), .int .i64 ((y : Int) - 1), .int .i64 ((x : Int) - 1), .int .i64 (y : Int), .int .i64 ((x : Int) + 1), .int .i64 (y : Int), .int .i64 (x : Int), .int .i64 ((y : Int) + 1)] 39)).ownsRow hi 39 2 (.slice (some ⟨w7.heap.size, 0, none⟩) 4 4) 4 (spL (arL x y)) :=
                World.ownsRow_lit (e := 39) (size := 2) w7 _ 4 (by omega) (by decide) rfl
              have O8 := own_ext EX O7
              have I8 := I7.step EX
              have T8 := T7.under EX T7.lt
              have X8 := X7.under EX X7.lt
              have CN : Hid (m - 1 + cntM O n + 1 = m + cntM O n ∧ cntM O n ≤ cntM O n ∧ gw ≠ bw) := by rw [Hid]; omega
              obtain ⟨gR, hgR⟩ : ∃ gR, w7.heap.size = gR := ⟨_, rfl⟩
              rw [hgR] at R8
              try simp only [hgR]
              clear u0 u1 O7 I7 T7 X7 EX hgR
              generalize w7.alloc (.cells #[.int .i64 (x : Int), .int .i64 ((y : Int) - 1), .int .i64 ((x : Int) - 1), .int .i64 (y : Int), .int .i64 ((x : Int) + 1), .int .i64 (y : Int), .int .i64 (x : Int), .int .i64 ((y : Int) + 1)] 39) = w8 at *
              go_loopw [8, 133] (fun v jv wi => ∃ (j : Nat) (O' hh' : Nat → Int) (wt' : List (Nat × Int)) (gw' m' cw' : Nat) (T : Nat → Prop), j ≤ 4 ∧ jv = .int .i64 j ∧ v = .slice (some ⟨gw', 0, none⟩) m' cw' ∧ Hid (wt'.length = m') ∧ Hid (FlM W n G M O' hh' wt' p h T) ∧ Hid (∀ i, i < j → inG W H ((arL x y).getD i (0, 0)) = true → T (plc W ((arL x y).getD i (0, 0)))) ∧ Hid (m' + cntM O n + 1 = m + cntM O' n ∧ cntM O n ≤ cntM O' n ∧ gw' ≠ bw) ∧
                wi.ownsRow hi 80 3 (.slice (some ⟨gw', 0, none⟩) m' cw') m' (wvC W wt') ∧ FloInv w3 lo hi (hi + 1) A c vs W H O' wi ∧ wi.ownsRow hi 39 2 (.slice (some ⟨gR, 0, none⟩) 4 4) 4 (spL (arL x y)) ∧ Blk wi b0 26 #[.slice (some ⟨gA, 0, none⟩) H c0] ∧ Blk wi bw 80 #[.int .i64 x, .int .i64 y, .int .i64 h]) (fun _ jv _ => 4 - (intOf jv).toNat)
              case atStart => exact ⟨0, O, hh, wt.eraseIdx k, gw, m - 1, cw, _, by omega, rfl, rfl, WE, PP, fun i h => absurd h (Nat.not_lt_zero _), CN, O8, I8, R8, T8, X8⟩
              case round =>
                obtain ⟨j, O', hh', wt', gw', m', cw', T, hj, rfl, rfl, hwl', hFM, hT, hcn, O9, I9, R9, T9, X9⟩ := hrel
                clear O8 I8 R8 T8 X8 CN PP WE
                have cle := cntM_le O' n
                have cle2 := CL.out
                obtain ⟨hcn2, hcn3, hcn4⟩ := hcn.out
                have few := hFM.out.few
                have hwl2 := hwl'.out
                by_cases hjl : j < 4
                · have S9 := own_spots R9 rfl
                  obtain ⟨c1, c2⟩ := S9.2 j hjl
                  have hq : (arL (x : Int) y).getD j (0, 0) = (arL (x : Int) y)[j]'hjl := by rw [List.getD_eq_getElem?_getD, List.getElem?_eq_getElem hjl]; rfl
                  have AJ := Lib.hid (AL.out x y hx hy j hjl)
                  rw [hq] at AJ
                  have HQ := Lib.hid hq
                  clear hq S9
                  generalize (arL (x : Int) y)[j]'hjl = q at *
                  obtain ⟨qx, qy⟩ := q
                  simp only at c1 c2
                  have i0 : (0 : Int) ≤ (j : Int) := by omega
                  have i1 : (j : Int) < 4 := by omega
                  have hgR1 := (R9.lt gR rfl).2
                  go_wp2_with fail
                  have EX := Ext.more (Ext.refl wr) (.cells #[.int .i64 qx, .int .i64 qy] 39)
                  have OB := own_ext EX O9
                  have IB := I9.step EX
                  have RB := own_ext EX R9
                  have TB := T9.under EX T9.lt
                  have XB := X9.under EX X9.lt
                  have QB := Blk.made wr 39 #[.int .i64 qx, .int .i64 qy]
                  have hq0 := T9.lt
                  have hq1 := X9.lt
                  have hq2 := I9.box.lt
                  obtain ⟨bq, hbq⟩ : ∃ bq, wr.heap.size = bq := ⟨_, rfl⟩
                  rw [hbq] at QB hgR1 hq0 hq1 hq2
                  try simp only [hbq]
                  clear c1 c2 O9 I9 R9 T9 X9 EX hbq
                  generalize wr.alloc (.cells #[.int .i64 qx, .int .i64 qy] 39) = wn at *
                  refine (OH.out _ O' IB.grey qx qy).mono ?_
                  rintro e w10 ⟨rfl, hb⟩
                  have O10 := own_ext hb OB
                  have I10 := IB.step hb
                  have R10 := own_ext hb RB
                  have T10 := TB.under hb TB.lt
                  have X10 := XB.under hb XB.lt
                  have Q10 := QB.under hb QB.lt
                  have u0 := Q10.cell 0
                  have u1 := Q10.cell 1
                  simp at u0 u1
                  clear OB IB RB TB XB QB hb
                  cases hin : inG W H (qx, qy)
                  · have NT : Hid (∀ i, i < j + 1 → inG W H ((arL x y).getD i (0, 0)) = true → T (plc W ((arL x y).getD i (0, 0)))) := fun i hi2 hg => by
                      rcases Nat.lt_succ_iff_lt_or_eq.1 hi2 with h3 | rfl
                      · exact hT.out i h3 hg
                      · rw [HQ.out, hin] at hg; cases hg
                    clear hin hT
                    go_wp2_with fail
                    go_roundw
                    case rel => exact ⟨j + 1, O', hh', wt', gw', m', cw', T, by omega, by go_num, rfl, hwl', hFM, NT, hcn, O10, I10, R10, T10, X10⟩
                    case measure => simp [intOf]; omega
                  · obtain ⟨a, d, rfl, rfl, ha, hd, hpl⟩ := inG_nat hin
                    have AJ' := Lib.hid (AJ.out hin)
                    rw [hpl] at AJ'
                    have HPL := Lib.hid hpl
                    have HIN := Lib.hid hin
                    clear hin hpl AJ
                    go_wp2_with fail
                    refine (OA.out _ O' I10.grey a d ha hd).mono ?_
                    rintro e w11 ⟨rfl, hb⟩
                    have O11 := own_ext hb O10
                    have I11 := I10.step hb
                    have R11 := own_ext hb R10
                    have T11 := T10.under hb T10.lt
                    have X11 := X10.under hb X10.lt
                    have Q11 := Q10.under hb Q10.lt
                    clear O10 I10 R10 T10 X10 Q10 hb u0 u1
                    by_cases hz : O' (d * W + a) = 0
                    case neg =>
                      have q1 : (O' (d * W + a) == 0) = false := by rw [beq_eq_false_iff_ne]; exact hz
                      have FS := Lib.hid (hFM.out.skip hz)
                      have NT : Hid (∀ i, i < j + 1 → inG W H ((arL x y).getD i (0, 0)) = true → (plc W ((arL x y).getD i (0, 0)) = d * W + a ∨ T (plc W ((arL x y).getD i (0, 0))))) := fun i hi2 hg => by
                        rcases Nat.lt_succ_iff_lt_or_eq.1 hi2 with h3 | rfl
                        · exact .inr (hT.out i h3 hg)
                        · exact .inl (by rw [HQ.out, HPL.out])
                      clear hz hT hFM
                      go_wp2_with fail
                      go_roundw
                      case rel => exact ⟨j + 1, O', hh', wt', gw', m', cw', _, by omega, by go_num, rfl, hwl', FS, NT, hcn, O11, I11, R11, T11, X11⟩
                      case measure => simp [intOf]; omega
                    have q1 : (O' (d * W + a) == 0) = true := by rw [hz]; rfl
                    have FS := Lib.hid (hFM.out.put (by rw [EK.out]; exact AJ'.out.symm) hz)
                    have NT : Hid (∀ i, i < j + 1 → inG W H ((arL x y).getD i (0, 0)) = true → (plc W ((arL x y).getD i (0, 0)) = d * W + a ∨ T (plc W ((arL x y).getD i (0, 0))))) := fun i hi2 hg => by
                      rcases Nat.lt_succ_iff_lt_or_eq.1 hi2 with h3 | rfl
                      · exact .inr (hT.out i h3 hg)
                      · exact .inl (by rw [HQ.out, HPL.out])
                    have sn : d * W + a < n := AJ'.out.1
                    have CN0 : Hid (m' + 1 + cntM O n + 1 = m + cntM (setF O' (d * W + a) (O' p)) n ∧ cntM O n ≤ cntM (setF O' (d * W + a) (O' p)) n) := by
                      rw [Hid, cntM_put hz hFM.out.qO n sn]; omega
                    have few2 : m' + 1 ≤ n := by omega
                    obtain ⟨g, gr, cy, rfl, p2, p4, p5, p6, pW⟩ := I11.putW ha hd
                    have z0 := I11.box.cell 0
                    have u0 := Q11.cell 0
                    have u1 := Q11.cell 1
                    have v0 := X11.cell 0
                    have v1 := X11.cell 1
                    simp at z0 u0 u1 v0 v1
                    have l0 := I11.box.lt
                    have l1 := Q11.lt
                    have l2 := X11.lt
                    have a0 : (0 : Int) ≤ (a : Int) := by omega
                    have a1 : (a : Int) < (W : Int) := by omega
                    have d0 : (0 : Int) ≤ (d : Int) := by omega
                    have d1 : (d : Int) < (H : Int) := by omega
                    have OQ := Lib.hid (fun V (hb : Below w11.heap.size w11 V) => OA.out V O' (I11.step hb).grey x y hx hy)
                    clear hz hT hFM
                    go_wp2_with fail
                    refine wp_region_held_tail 11 (fun V => Below w11.heap.size w11 V) (by kernel_rfl) (by kernel_rfl) (Ext.refl _).drew ?_
                    simp only [List.take_succ_cons, List.take_zero, List.drop_succ_cons, List.drop_zero]
                    have ne : Nonempty (HeldW (fun V => Below w11.heap.size w11 V)) := ⟨⟨w11, Ext.refl _⟩⟩
                    have k0 : ∀ i : HeldW (fun V => Below w11.heap.size w11 V), i.w.cell? ⟨hi + 1, 0, none⟩ = some (.slice (some ⟨g, 0, none⟩) H c) := fun i => (i.h.cell (p := ⟨hi + 1, 0, none⟩) l0).trans z0
                    have k1 : ∀ i : HeldW (fun V => Below w11.heap.size w11 V), i.w.cell? ⟨bq, 0, none⟩ = some (.int .i64 a) := fun i => (i.h.cell (p := ⟨bq, 0, none⟩) l1).trans u0
                    have k2 : ∀ i : HeldW (fun V => Below w11.heap.size w11 V), i.w.cell? ⟨bq, 1, none⟩ = some (.int .i64 d) := fun i => (i.h.cell (p := ⟨bq, 1, none⟩) l1).trans u1
                    have k3 : ∀ i : HeldW (fun V => Below w11.heap.size w11 V), i.w.cell? ⟨g, d, none⟩ = some (.slice (some ⟨gr, 0, none⟩) W cy) := fun i => (pW i.w i.h).1
                    have k4 : ∀ i : HeldW (fun V => Below w11.heap.size w11 V), i.w.cell? ⟨bw, 0, none⟩ = some (.int .i64 x) := fun i => (i.h.cell (p := ⟨bw, 0, none⟩) l2).trans v0
                    have k5 : ∀ i : HeldW (fun V => Below w11.heap.size w11 V), i.w.cell? ⟨bw, 1, none⟩ = some (.int .i64 y) := fun i => (i.h.cell (p := ⟨bw, 1, none⟩) l2).trans v1
                    repeat (go_big_quiet_step ((go_at_call 41; exact Calls.above_of _ (OQ.out _ (HeldW.h _)))))
                    refine wpQuiet_nil ?_
                    intro w12 hw'
                    obtain ⟨⟨_, hb12⟩, rfl⟩ := hw'
                    clear ne k0 k1 k2 k3 k4 k5 z0 u0 u1 v0 v1
                    obtain ⟨q1', q2', q3', q4'⟩ := pW w12 hb12
                    have I13 := q4' (O' (y * W + x))
                    have Q13 := (Q11.under hb12 l1).apart (p := ⟨gr, a, none⟩) (by show bq ≠ gr; have := I11.hp; omega) (.int .i64 (O' (y * W + x)))
                    have X13 := (X11.under hb12 l2).apart (p := ⟨gr, a, none⟩) (by show bw ≠ gr; have := I11.hp; omega) (.int .i64 (O' (y * W + x)))
                    have T13 := (T11.under hb12 T11.lt).apart (p := ⟨gr, a, none⟩) (by show b0 ≠ gr; have := I11.hp; omega) (.int .i64 (O' (y * W + x)))
                    have O13 := ownsRow_setCell_below (own_ext hb12 O11) (a := ⟨gr, a, none⟩) (by show gr < hi; omega) (.int .i64 (O' (y * W + x)))
                    have R13 := ownsRow_setCell_below (own_ext hb12 R11) (a := ⟨gr, a, none⟩) (by show gr < hi; omega) (.int .i64 (O' (y * W + x)))
                    clear pW q4' OQ I11 Q11 X11 T11 O11 R11 hb12
                    go_wp2_with fail
                    have l13 := Q13.lt
                    have l14 := X13.lt
                    have l15 := T13.lt
                    generalize w12.setCell ⟨gr, a, none⟩ (.int .i64 (O' (y * W + x))) = w13 at *
                    have u0 := Q13.cell 0
                    have u1 := Q13.cell 1
                    have v2 := X13.cell 2
                    simp at u0 u1 v2
                    have B13 := BW.out _ _ I13
                    have GZ := Lib.hid (fun V (hb : Below w13.heap.size w13 V) => GX.out V (B13.trans (hb.mono (by omega))) (T13.under hb l15))
                    have hgw' := O13.lt gw' rfl
                    have WV : Hid (wvV W (d * W + a, max (G (d * W + a)) h) = [.int .i64 a, .int .i64 d, .int .i64 (max (G (d * W + a)) h)]) := by rw [Hid, wvV, plM ha, plD ha]
                    have EKp : Hid (O' p = O' (y * W + x)) := by rw [Hid, EK.out]
                    clear B13 q1' q2' q3'
                    go_wp2_with fail
                    go_region_law (first
                        | (refine step_app waveT (by rfl) _ _ (by rfl) hi (.slice (some ⟨gw', 0, none⟩) m' cw') m' (wvC W wt') (by rfl) ((own_ext hb' O13).alloc _) w14.heap.size #[.int .i64 a, .int .i64 d, .int .i64 (max (G (d * W + a)) h)] (by rfl) (by exact heap_alloc_new w14 _) rfl (by simp [Value.oneCell']) (by omega) (by have := hb'.size; simp at *; omega) ?_; intro g15 c15 w15 own15 hg15 hat15 hlt15)
                        | (go_simp; go_at_call 41; refine (GA.out _ (GZ.out _ (Ext.draw (Ext.refl _))) a d ha hd).mono ?_; rintro e w14 ⟨rfl, hb'⟩; have e0 := (hb'.cell (p := ⟨bq, 0, none⟩) l13).trans u0; have e1 := (hb'.cell (p := ⟨bq, 1, none⟩) l13).trans u1; have e2 := (hb'.cell (p := ⟨bw, 2, none⟩) l14).trans v2))
                    all_goals
                      have hb14 : Below w13.heap.size w13 w14 := Ext.undraw hb'
                      have gp : gw' ≠ hi + 1 := fun e => own_blk_ne O13 I13.box (by decide) (by rw [e]; rfl)
                      have I15 := ((I13.step hb14).step (Ext.more (Ext.refl _) (.cells #[.int .i64 a, .int .i64 d, .int .i64 (max (G (d * W + a)) h)] 80))).chg (Chg.of_row hg15) (fun b hb => by
                        have : gw' = b := by simpa [Value.ownBlock] using hb
                        subst this; exact ⟨hgw'.1, gp⟩)
                      have T15 := ((T13.under hb14 l15).more (.cells #[.int .i64 a, .int .i64 d, .int .i64 (max (G (d * W + a)) h)] 80)).by_grown hg15 (fun e => by have := Option.some.inj (show some b0 = some gw' from e); have := hgw'.1; have := I13.hp; omega)
                      have X15 := ((X13.under hb14 l14).more (.cells #[.int .i64 a, .int .i64 d, .int .i64 (max (G (d * W + a)) h)] 80)).by_grown hg15 (fun e => hcn4 (Option.some.inj (show some bw = some gw' from e)).symm)
                      have CN : Hid (m' + 1 + cntM O n + 1 = m + cntM (setF O' (d * W + a) (O' p)) n ∧ cntM O n ≤ cntM (setF O' (d * W + a) (O' p)) n ∧ g15 ≠ bw) := ⟨CN0.out.1, CN0.out.2, by
                        rcases hat15 with e | e
                        · have := Option.some.inj (show some gw' = some g15 from e); omega
                        · have := hb14.size; simp at e; omega⟩
                      have R15 := ((own_ext hb14 R13).alloc (.cells #[.int .i64 a, .int .i64 d, .int .i64 (max (G (d * W + a)) h)] 80)).kept hg15 (.inr (fun e => own_own_ne R13 O13 (by decide) rfl e.symm))
                      have O15 := own_wave own15 (Nat.le_refl _) (ys := wvC W (wt' ++ [(d * W + a, max (G (d * W + a)) h)])) (by rw [wvC_app]; simp [wvC, WV.out]) rfl
                      have SN : Hid ((wt' ++ [(d * W + a, max (G (d * W + a)) h)]).length = m' + 1) := by rw [Hid, List.length_append, hwl'.out]; rfl
                      rw [← EKp.out] at I15
                      clear own15 hg15 hat15 hlt15 hb' hb14 e0 e1 e2 u0 u1 v2
                      go_wp2_with fail
                      go_roundw
                      case rel => exact ⟨j + 1, _, _, _, g15, m' + 1, c15, _, by omega, by go_num, rfl, SN, FS, NT, CN, O15, I15, R15, T15, X15⟩
                      case measure => simp [intOf]; omega
                · obtain rfl : j = 4 := by omega
                  have FC := Lib.hid (hFM.out.close (fun s ha => by
                    rw [EK.out] at ha
                    obtain ⟨i, hi4, h1, h2⟩ := AA.out x y hx hy s ha.symm
                    have := hT.out i hi4 h1
                    rwa [h2] at this))
                  have M2 := MCO.out O' wr I9
                  go_wp2_with fail
                  go_roundw
                  case rel => exact ⟨O', hh', h, wt', gw', m', cw', rfl, hwl', by omega, FC, O9, I9, T9⟩
                  case measure => rw [M2]; simp only [lenV]; omega
end Go.Proofs.Ytkamkjbllmgifaa
