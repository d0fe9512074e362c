/- A drawn picture, seldom an invalid one. A drawn picture of rings; the picture of a law's bytes. The picture that a law's bytes make: of rings, or of some rectangles. -/
import Derived.Test.YtdhajndmebnknaaGreatDrawG
import Derived.Deep.RegionLaw
import Derived.Test.YtdhajndmebnknaaGreatSIs
namespace Go.Proofs.YtdhajndmebnknaaGreat
open Go.RowKit

/-- A source while something is drawn: what has turned since w0 is the source's own block and new memory. -/
structure Sw (B : Nat) (w0 : World) (s : Nat) (A : Option Addr) (n c : Nat) (l : List Int) (i : Nat) (w : World) : Prop where
  src : ∃ j, j ≤ i ∧ Src B w s A n c l j
  chg : Chg (fun b => b = s ∨ w0.heap.size ≤ b) w0 w
  hs : s < w0.heap.size
section
variable {B : Nat} {w0 w w' : World} {s : Nat} {A : Option Addr} {n c : Nat} {l : List Int} {i : Nat}
theorem Sw.start (h : Src B w s A n c l i) : Sw B w s A n c l i w := ⟨⟨i, Nat.le_refl _, h⟩, Chg.refl _ _, h.at_.le⟩
theorem Sw.ext (h : Sw B w0 s A n c l i w) (hb : Below w.heap.size w w') : Sw B w0 s A n c l i w' := by
  obtain ⟨j, hj, hS⟩ := h.src
  exact ⟨⟨j, hj, hS.ext hb⟩, h.chg.ext hb, h.hs⟩
theorem Sw.store (h : Sw B w0 s A n c l i w) {p : Addr} (hp : w0.heap.size ≤ p.block) (u : Value) : Sw B w0 s A n c l i (w.setCell p u) := by
  obtain ⟨j, hj, hS⟩ := h.src
  have h1 := h.hs
  have h2 := hS.high
  exact ⟨⟨j, hj, hS.other (p := p) (by omega) (by omega) u⟩, h.chg.store (p := p) (.inr hp) u, h1⟩
theorem Sw.le (h : Sw B w0 s A n c l i w) {i' : Nat} (hi : i ≤ i') : Sw B w0 s A n c l i' w := by
  obtain ⟨j, hj, hS⟩ := h.src
  exact ⟨⟨j, by omega, hS⟩, h.chg, h.hs⟩
theorem Sw.pick (h : Sw B w0 s A n c l i w) (hn : n ≤ maxLen) (hi : i ≤ 1000000) (m : Int) (hm : 1 ≤ m) (hm2 : m ≤ 200) :
    Calls Tryz.prog 40 #[.pointer (some ⟨s, 0, none⟩), .int .i64 m] w fun e w' => ∃ k : Nat, (k : Int) < m ∧ e = .returned (.int .i64 k) ∧ Sw B w0 s A n c l (i + 1) w' ∧ One s w w' := by
  obtain ⟨j, hj, hS⟩ := h.src
  refine (pick_any B s A n c j l m hm hm2 w hS hn (by omega)).mono ?_
  rintro e w' ⟨⟨k, hk, rfl⟩, ⟨j', hj', hs'⟩, ho⟩
  exact ⟨k, hk, rfl, ⟨⟨j', by omega, hs'⟩, h.chg.trans (ho.mono (fun k hk => .inl hk)), h.hs⟩, ho⟩
theorem Sw.one (h : Sw B w0 s A n c l i w) (hn : n ≤ maxLen) (hi : i ≤ 1000000) (m : Int) (hm : 1 ≤ m) (hm2 : m ≤ 200) :
    Calls Tryz.prog 38 #[.pointer (some ⟨s, 0, none⟩), .int .i64 m] w fun e w' => ∃ b : Bool, e = .returned (.bool b) ∧ Sw B w0 s A n c l (i + 1) w' ∧ One s w w' := by
  obtain ⟨j, hj, hS⟩ := h.src
  refine (one_any B s A n c j l m hm hm2 w hS hn (by omega)).mono ?_
  rintro e w' ⟨⟨b, rfl⟩, ⟨j', hj', hs'⟩, ho⟩
  exact ⟨b, rfl, ⟨⟨j', by omega, hs'⟩, h.chg.trans (ho.mono (fun k hk => .inl hk)), h.hs⟩, ho⟩
theorem Sw.size (h : Sw B w0 s A n c l i w) : w0.heap.size ≤ w.heap.size := h.chg.size
theorem One.keep (ho : One s w w') {g : Nat} {t : TypeId} {cs : Array Value} (hB : Blk w g t cs) (hg : g ≠ s) : Blk w' g t cs := Chg.blk ho hB hg
end
/-- A call has returned rows of its own. -/
def RowsRes (B : Nat) (w : World) (s : Nat) (A : Option Addr) (n c : Nat) (l : List Int) (i : Nat) (e : Ending) (w' : World) (rows : List ByteArray) : Prop :=
  ∃ A2 c2, e = .returned (.agg #[.slice A2 rows.length c2]) ∧ w'.ownsRow w.heap.size 9 1 (.slice A2 rows.length c2) rows.length (strs rows) ∧ Sw B w s A n c l i w'
theorem rowS_sizeR (L : List Bool) (W y : Nat) : (rowS L W y).size = W := by
  show (rowB L W y W).toArray.size = W
  simp [rowB_length]
theorem rowsTo_smallR {L : List Bool} {W H : Nat} {r : ByteArray} (hr : r ∈ rowsTo L W H) : r.size = W := by
  obtain ⟨y, _, rfl⟩ := List.mem_map.1 hr
  exact rowS_sizeR L W y
set_option maxHeartbeats 1000000 in
theorem drawOkR_any (B s : Nat) (A : Option Addr) (n c i : Nat) (l : List Int) (w : World) (h : Src B w s A n c l i) (hn : n ≤ maxLen) (hi : i ≤ 800000) :
    Calls Tryz.prog 61 #[.pointer (some ⟨s, 0, none⟩)] w fun e w' => ∃ L W H, 0 < H ∧ H ≤ 16 ∧ 0 < W ∧ W ≤ 16 ∧ RowsRes B w s A n c l (i + 340) e w' (rowsTo L W H) := by
  have R0 := Blk.made w 26 #[.slice none 0 0]
  have S0 := (Sw.start h).ext (Ext.more (Ext.refl w) (.cells #[.slice none 0 0] 26))
  have z0 : (w.alloc (.cells #[.slice none 0 0] 26)).heap.size = w.heap.size + 1 := by simp
  have hs := h.at_.le
  clear h
  go_enter Tryz.func61, Tryz.ntmps61
  go_wp2_with fail
  generalize w.alloc (.cells #[.slice none 0 0] 26) = w1 at *
  refine (S0.pick hn (by omega) 7 (by decide) (by decide)).mono ?_
  rintro e w2 ⟨k, hk, rfl, S2, o2⟩
  have R2 := o2.keep R0 (by omega)
  clear S0 R0 o2
  go_wp2_with fail
  refine (S2.pick hn (by omega) 7 (by decide) (by decide)).mono ?_
  rintro e w3 ⟨k2, hk2, rfl, S3, o3⟩
  have R3 := o3.keep R2 (by omega)
  clear S2 R2 o3
  go_wp2_with fail
  refine (S3.one hn (by omega) 20 (by decide) (by decide)).mono ?_
  rintro e w4 ⟨b, rfl, S4, o4⟩
  have R4 := o4.keep R3 (by omega)
  clear S3 R3 o4
  obtain ⟨j, hj, SS⟩ := S4.src
  have hB := SS.high
  have DG := Lib.hid (fun (W H : Nat) (hW0 : 0 < W) (hW : W ≤ 16) (hH0 : 0 < H) (hH : H ≤ 16) => drawG_any B s A n c j l W H w4 SS hn (by omega) hW0 hW hH0 hH)
  have HS4 := Lib.hid S4
  clear S4 SS
  obtain ⟨W, hWd⟩ : ∃ W, k + 1 = W := ⟨_, rfl⟩
  obtain ⟨H, hHt⟩ : ∃ H, k2 + 1 = H := ⟨_, rfl⟩
  have e1 : (1 : Int) + (k : Int) = (W : Int) := by omega
  have e2 : (1 : Int) + (k2 : Int) = (H : Int) := by omega
  have w1' : 0 < W ∧ W ≤ 16 := by omega
  have w2' : 0 < H ∧ H ≤ 16 := by omega
  clear hWd hHt
  cases b
  case' false =>
    try rw [e1]
    try rw [e2]
    go_wp2_with fail
    try rw [e1]
    try rw [e2]
    refine (DG.out W H w1'.1 w1'.2 w2'.1 w2'.2).mono ?_
  case' true =>
    go_wp2_with fail
    refine (DG.out 16 16 (by decide) (by decide) (by decide) (by decide)).mono ?_
  all_goals
    rintro e w5 ⟨A6, c6, L, rfl, hL, own6, T6, j6, hj6, S6⟩
    have R5 := Chg.blk T6 R4 (by have := R4.lt; rintro (e | e) <;> omega)
    have hz4 := R4.lt
    have hz5 := R5.lt
    have f0 := R5.free 0
    have c0 := R5.cell 0
    simp at c0
    have FIN : Hid (∀ u, Sw B w s A n c l (i + 340) (w5.setCell ⟨w.heap.size, 0, none⟩ u)) := fun u =>
      Sw.store ⟨⟨j6, by omega, S6⟩, HS4.out.chg.trans (T6.mono (fun k hk => hk.imp id (fun h => by have := HS4.out.size; omega))), hs⟩ (p := ⟨w.heap.size, 0, none⟩) (Nat.le_refl _) u
    have O7 := Lib.hid own6
    clear S6 own6 T6 DG HS4
    first
      | (have chk : Hid (w5.ownsRow w4.heap.size 9 1 (.slice A6 H c6) H (strs (rowsTo L W H))) := O7
         clear chk
         have cs := (R5.store 0 (.slice A6 H c6)).cell 0
         simp at cs
         go_wp2_with fail
         refine bodyPost_ret (v := .agg #[.slice A6 H c6]) (by simp [results, Tryz.results61, go_sem, cs]) rfl ⟨L, W, H, by omega, by omega, by omega, by omega, A6, c6, by rw [rowsTo_length], ?_, FIN.out _⟩)
      | (have cs := (R5.store 0 (.slice A6 16 c6)).cell 0
         simp at cs
         go_wp2_with fail
         refine bodyPost_ret (v := .agg #[.slice A6 16 c6]) (by simp [results, Tryz.results61, go_sem, cs]) rfl ⟨L, 16, 16, by omega, by omega, by omega, by omega, A6, c6, by rw [rowsTo_length], ?_, FIN.out _⟩)
    · rw [rowsTo_length]
      exact own_base (base' := w.heap.size) (base := w4.heap.size) (ownsRow_setCell_below O7.out (a := ⟨w.heap.size, 0, none⟩) (by show w.heap.size < w4.heap.size; omega) _) (by omega)
theorem own_chg {w w' : World} {S : Nat → Prop} {base : Nat} {e : TypeId} {size g n cap : Nat} {xs : List Value} (h : w.ownsRow base e size (.slice (some ⟨g, 0, none⟩) n cap) n xs) (hc : Chg S w w') (hg : ¬ S g) : w'.ownsRow base e size (.slice (some ⟨g, 0, none⟩) n cap) n xs := by
  refine ⟨h.1, ?_⟩
  rcases h.2 with ⟨h', _⟩ | ⟨g', cap', cur, hv, hb, hh, hr⟩
  · simp at h'
  · have hv' := hv
    simp only [Value.slice.injEq, Option.some.injEq, Addr.mk.injEq, and_true, true_and] at hv'
    obtain ⟨rfl, rfl⟩ := hv'
    exact .inr ⟨g, cap, cur, hv, hb, (hc.block g (Blk.lt hh) hg).trans hh, hr⟩
theorem own_apart {w : World} {base : Nat} {e : TypeId} {size g n cap : Nat} {xs : List Value} (h : w.ownsRow base e size (.slice (some ⟨g, 0, none⟩) n cap) n xs) {p : Addr} (hp : g ≠ p.block) (u : Value) : (w.setCell p u).ownsRow base e size (.slice (some ⟨g, 0, none⟩) n cap) n xs := by
  refine ⟨h.1, ?_⟩
  rcases h.2 with ⟨h', _⟩ | ⟨g', cap', cur, hv, hb, hh, hr⟩
  · simp at h'
  · have hv' := hv
    simp only [Value.slice.injEq, Option.some.injEq, Addr.mk.injEq, and_true, true_and] at hv'
    obtain ⟨rfl, rfl⟩ := hv'
    exact .inr ⟨g, cap, cur, hv, hb, (Below.heap_setCell w p u g hp).trans hh, hr⟩
theorem own_at {w : World} {base : Nat} {e : TypeId} {size g n cap : Nat} {xs : List Value} (h : w.ownsRow base e size (.slice (some ⟨g, 0, none⟩) n cap) n xs) : base ≤ g ∧ g < w.heap.size := by
  rcases h.2 with ⟨h', _⟩ | ⟨g', cap', cur, hv, hb, hh, hr⟩
  · simp at h'
  · simp only [Value.slice.injEq, Option.some.injEq, Addr.mk.injEq, and_true, true_and] at hv
    obtain ⟨rfl, rfl⟩ := hv
    exact ⟨hb, Blk.lt hh⟩
theorem own_str_put {w : World} {base g n cap : Nat} {rows : List ByteArray} (h : w.ownsRow base 9 1 (.slice (some ⟨g, 0, none⟩) n cap) n (strs rows)) (i : Nat) (r : ByteArray) :
    (w.setCell ⟨g, i, none⟩ (.string r)).ownsRow base 9 1 (.slice (some ⟨g, 0, none⟩) n cap) n (strs (rows.set i r)) := by
  have := (h.stored i (.string r)).1
  have e : (strs rows).set i (.string r) = strs (rows.set i r) := by simp [strs, List.map_set]
  rw [e] at this
  exact this
/-- How many rows are lacking, as memory tells. -/
def measP (pb : Nat) (wr : World) : Nat := match wr.cell? ⟨pb, 0, none⟩ with
  | some (.slice _ m _) => 17 - m
  | _ => 0
/-- Ahead of the return: the rows in the box of the picture. -/
structure DwE (B : Nat) (w : World) (s : Nat) (A : Option Addr) (n c : Nat) (l : List Int) (i pb g m cap : Nat) (rows : List ByteArray) (wr : World) : Prop where
  sw : Sw B w s A n c l i wr
  box : Blk wr pb 26 #[.slice (some ⟨g, 0, none⟩) m cap]
  res : Blk wr w.heap.size 26 #[.slice none 0 0]
  own : wr.ownsRow (w.heap.size + 1) 9 1 (.slice (some ⟨g, 0, none⟩) m cap) m (strs rows)
  hpb : w.heap.size < pb
  len : rows.length = m
  few : m ≤ 100
section
variable {B : Nat} {w w' : World} {s : Nat} {A : Option Addr} {n c : Nat} {l : List Int} {i pb g m cap : Nat} {rows : List ByteArray} {wr : World}
theorem DwE.alloc (h : DwE B w s A n c l i pb g m cap rows wr) (o : Obj) : DwE B w s A n c l i pb g m cap rows (wr.alloc o) :=
  ⟨h.sw.ext (Ext.more (Ext.refl _) _), h.box.more _, h.res.more _, own_ext (Ext.more (Ext.refl _) _) h.own, h.hpb, h.len, h.few⟩
theorem DwE.drewN (h : DwE B w s A n c l i pb g m cap rows wr) (k : Nat) : DwE B w s A n c l i pb g m cap rows (wr.drewN k) :=
  ⟨h.sw.ext (Ext.drawN (Ext.refl _) _), h.box, h.res, own_ext (Ext.drawN (Ext.refl _) _) h.own, h.hpb, h.len, h.few⟩
theorem DwE.ret (h : DwE B w s A n c l i pb g m cap rows wr) : RowsRes B w s A n c l i (.returned (.agg #[.slice (some ⟨g, 0, none⟩) m cap])) (wr.setCell ⟨w.heap.size, 0, none⟩ (.slice (some ⟨g, 0, none⟩) m cap)) rows := by
  refine ⟨some ⟨g, 0, none⟩, cap, by rw [h.len], ?_, h.sw.store (p := ⟨w.heap.size, 0, none⟩) (Nat.le_refl _) _⟩
  rw [h.len]
  exact own_base (own_apart h.own (p := ⟨w.heap.size, 0, none⟩) (by have := (own_at h.own).1; show g ≠ w.heap.size; omega) _) (by omega)
/-- Other rows in the box. -/
theorem DwE.put (h : DwE B w s A n c l i pb g m cap rows wr) {g' m' cap' : Nat} {rows' : List ByteArray} (ho : wr.ownsRow (w.heap.size + 1) 9 1 (.slice (some ⟨g', 0, none⟩) m' cap') m' (strs rows')) (hl : rows'.length = m') (hf : m' ≤ 100) :
    DwE B w s A n c l i pb g' m' cap' rows' (wr.setCell ⟨pb, 0, none⟩ (.slice (some ⟨g', 0, none⟩) m' cap')) := by
  have hp := h.hpb
  have hne := own_blk_ne ho h.box (by decide)
  refine ⟨h.sw.store (p := ⟨pb, 0, none⟩) (by show w.heap.size ≤ pb; omega) _, ?_, h.res.apart (p := ⟨pb, 0, none⟩) (by show w.heap.size ≠ pb; omega) _, own_apart ho (p := ⟨pb, 0, none⟩) (fun e => hne (by simp [Value.ownBlock]; exact e)) _, hp, hl, hf⟩
  have := h.box.store 0 (.slice (some ⟨g', 0, none⟩) m' cap')
  simpa using this
theorem dwe_of {v : Value} (hsw : Sw B w s A n c l i wr) (hbox : Blk wr pb 26 #[v]) (hres : Blk wr w.heap.size 26 #[.slice none 0 0]) (hp : w.heap.size < pb)
    (ho : wr.ownsRow (w.heap.size + 1) 9 1 (.slice (some ⟨g, 0, none⟩) m cap) m (strs rows)) (hl : rows.length = m) (hf : m ≤ 100) : DwE B w s A n c l i pb g m cap rows (wr.setCell ⟨pb, 0, none⟩ (.slice (some ⟨g, 0, none⟩) m cap)) := by
  have hne := own_blk_ne ho hbox (by decide)
  refine ⟨hsw.store (p := ⟨pb, 0, none⟩) (by show w.heap.size ≤ pb; omega) _, ?_, hres.apart (p := ⟨pb, 0, none⟩) (by show w.heap.size ≠ pb; omega) _, own_apart ho (p := ⟨pb, 0, none⟩) (fun e => hne (by simp [Value.ownBlock]; exact e)) _, hp, hl, hf⟩
  have := hbox.store 0 (.slice (some ⟨g, 0, none⟩) m cap)
  simpa using this
/-- Another row in the list. -/
theorem DwE.set (h : DwE B w s A n c l i pb g m cap rows wr) (k : Nat) (r : ByteArray) : DwE B w s A n c l i pb g m cap (rows.set k r) (wr.setCell ⟨g, k, none⟩ (.string r)) := by
  have hg := own_at h.own
  have hne := own_blk_ne h.own h.box (by decide)
  refine ⟨h.sw.store (p := ⟨g, k, none⟩) (by show w.heap.size ≤ g; omega) _, h.box.apart (p := ⟨g, k, none⟩) (fun e => hne (by simp [Value.ownBlock]; exact e.symm)) _, h.res.apart (p := ⟨g, k, none⟩) (by show w.heap.size ≠ g; omega) _, own_str_put h.own k r, h.hpb, by rw [List.length_set]; exact h.len, h.few⟩
theorem DwE.grown (h : DwE B w s A n c l i pb g m cap rows wr) (hg : wr.grownBy w' (some g)) : Sw B w s A n c l i w' ∧ Blk w' pb 26 #[.slice (some ⟨g, 0, none⟩) m cap] ∧ Blk w' w.heap.size 26 #[.slice none 0 0] := by
  have hgb := own_at h.own
  have hne := own_blk_ne h.own h.box (by decide)
  have hb : Below (w.heap.size + 1) wr w' := Chg.below (S := fun b => b = g ∨ wr.heap.size ≤ b) ⟨hg.os, hg.tape, hg.output, hg.size, fun k hk hn => hg.block k hk (fun e => hn (.inl (by injection e)))⟩ (fun k hk => by have := h.sw.size; rcases hk with rfl | hk <;> omega) (by have := h.res.lt; omega)
  obtain ⟨j, hj, hS⟩ := h.sw.src
  have hsl := h.sw.hs
  refine ⟨⟨⟨j, hj, ⟨?_, ?_, hS.low, hS.high⟩⟩, h.sw.chg.trans (Chg.mono (Chg.of_below hb) fun k hk => .inr (by omega)), hsl⟩, h.box.by_grown hg (fun e => hne (by simp [Value.ownBlock]; injection e with e; exact e.symm)), h.res.by_grown hg (fun e => by injection e with e; omega)⟩
  · obtain ⟨seed, h0, h1, hB⟩ := hS.at_
    exact ⟨seed, h0, h1, hB.by_grown hg (fun e => by injection e with e; omega)⟩
  · refine ⟨hS.bytes.1, hS.bytes.2.1, fun hn => ?_⟩
    obtain ⟨a, e, hlt, hc⟩ := hS.bytes.2.2 hn
    have hlow := hS.low a e hn
    have hhi := hS.high
    exact ⟨a, e, Nat.lt_of_lt_of_le hlt hb.size, fun i hi => ((hb.mono (show B ≤ w.heap.size + 1 by omega)).cell (by rw [Addr.add_block]; exact hlow)).trans (hc i hi)⟩
theorem DwE.facts (h : DwE B w s A n c l i pb g m cap rows wr) : wr.cell? ⟨pb, 0, none⟩ = some (.slice (some ⟨g, 0, none⟩) m cap) ∧ wr.frozen? ⟨pb, 0, none⟩ = false ∧ wr.cell? ⟨w.heap.size, 0, none⟩ = some (.slice none 0 0) ∧ wr.frozen? ⟨w.heap.size, 0, none⟩ = false ∧
    (∀ v, (wr.setCell ⟨w.heap.size, 0, none⟩ v).cell? ⟨w.heap.size, 0, none⟩ = some v) := by
  refine ⟨(h.box.cell 0).trans rfl, h.box.free 0, (h.res.cell 0).trans rfl, h.res.free 0, fun v => ?_⟩
  have := (h.res.store 0 v).cell 0
  simpa using this
end
set_option maxRecDepth 100000 in
set_option maxHeartbeats 2000000 in
theorem drawR_any (B s : Nat) (A : Option Addr) (n c i : Nat) (l : List Int) (w : World) (h : Src B w s A n c l i) (hn : n ≤ maxLen) (hi : i ≤ 700000) :
    Calls Tryz.prog 39 #[.pointer (some ⟨s, 0, none⟩)] w fun e w' => ∃ rows, rows.length ≤ 100 ∧ RowsRes B w s A n c l (i + 342) e w' rows := by
  have R0 := Blk.made w 26 #[.slice none 0 0]
  have S0 := (Sw.start h).ext (Ext.more (Ext.refl w) (.cells #[.slice none 0 0] 26))
  have z0 : (w.alloc (.cells #[.slice none 0 0] 26)).heap.size = w.heap.size + 1 := by simp
  have hs := h.at_.le
  have hB := h.high
  clear h
  go_enter Tryz.func39, Tryz.ntmps39
  go_wp2_with fail
  generalize w.alloc (.cells #[.slice none 0 0] 26) = w1 at *
  obtain ⟨j, hj, SS⟩ := S0.src
  refine (drawOkR_any B s A n c j l w1 SS hn (by omega)).mono ?_
  rintro e w2 ⟨L, W, H, hH0, hH, hW0, hW, A2, c2, rfl, own2, S2⟩
  rw [rowsTo_length] at own2
  rw [rowsTo_length]
  have R2 := Chg.blk S2.chg R0 (by have := R0.lt; rintro (e | e) <;> omega)
  have C2 := S0.chg.trans (S2.chg.mono (T := fun b => b = s ∨ w.heap.size ≤ b) (fun k hk => hk.imp id (fun h => by have := S0.size; omega)))
  have SW2 : Sw B w s A n c l (i + 340) w2 := by
    obtain ⟨j2, hj2, SS2⟩ := S2.src
    exact ⟨⟨j2, by omega, SS2⟩, C2, hs⟩
  obtain ⟨g, rfl, hg1, hg2⟩ : ∃ g, A2 = some ⟨g, 0, none⟩ ∧ w1.heap.size ≤ g ∧ g < w2.heap.size := by
    rcases own2.2 with ⟨h', _⟩ | ⟨g, cap, cur, h', hb, hh, _⟩
    · simp at h'
      omega
    · simp at h'
      obtain ⟨rfl, _⟩ := h'
      exact ⟨g, rfl, hb, Blk.lt hh⟩
  have hrl : (rowsTo L W H).length = H := rowsTo_length _ _ _
  have hrs : ∀ r ∈ rowsTo L W H, r.size = W := fun r hr => rowsTo_smallR hr
  generalize rowsTo L W H = rows at *
  have DA : DwE B w s A n c l (i + 340) w2.heap.size g H c2 rows (w2.alloc (.cells #[.slice (some ⟨g, 0, none⟩) H c2] 26)) :=
    ⟨SW2.ext (Ext.more (Ext.refl _) _), Blk.made w2 _ _, R2.more _, own_ext (Ext.more (Ext.refl _) _) (own_base own2 (by omega)), by have := R2.lt; omega, hrl, by omega⟩
  clear S0 R0 SS S2 C2 own2 R2 SW2 hg1 hg2
  go_wp2_with fail
  generalize w2.alloc (.cells #[.slice (some ⟨g, 0, none⟩) H c2] 26) = wa at *
  generalize w2.heap.size = pb at *
  refine (DA.sw.pick hn (by omega) 40 (by decide) (by decide)).mono ?_
  rintro e w3 ⟨k, hk, rfl, S3, o3⟩
  have hpb := DA.hpb
  have D3 : DwE B w s A n c l (i + 341) pb g H c2 rows w3 := ⟨S3, o3.keep DA.box (by have := DA.hpb; omega), o3.keep DA.res (by omega), own_chg DA.own o3 (by have := (own_at DA.own).1; omega), DA.hpb, DA.len, DA.few⟩
  clear DA S3 o3
  have FIN : Hid (∀ (g m cap : Nat) (rows : List ByteArray) (wr : World), DwE B w s A n c l (i + 341) pb g m cap rows wr → rows.length ≤ 100 ∧ RowsRes B w s A n c l (i + 342) (.returned (.agg #[.slice (some ⟨g, 0, none⟩) m cap])) (wr.setCell ⟨w.heap.size, 0, none⟩ (.slice (some ⟨g, 0, none⟩) m cap)) rows) := fun g m cap rows wr h =>
    ⟨by rw [h.len]; exact h.few, by obtain ⟨A, c, h1, h2, h3⟩ := h.ret; exact ⟨A, c, h1, h2, h3.le (by omega)⟩⟩
  have hk' : k = 0 ∨ k = 1 ∨ k = 2 ∨ k = 3 ∨ k = 4 ∨ 5 ≤ k := by omega
  rcases hk' with rfl | rfl | rfl | rfl | rfl | hk5
  · -- no rows
    have D4 := (D3.alloc (.cells #[] 9)).put (g' := w3.heap.size) (m' := 0) (cap' := 0) (rows' := []) (World.ownsRow_lit (e := 9) (size := 1) w3 #[] 0 (by have := D3.res.lt; omega) (by decide) rfl) rfl (by omega)
    obtain ⟨p1, p0, _, _, _⟩ := (D3.alloc (.cells #[] 9)).facts
    obtain ⟨q1, _, r0, r1, cs⟩ := D4.facts
    have R := Lib.hid (FIN.out _ _ _ _ _ D4)
    clear FIN D4 D3
    go_wp2_with fail
    refine bodyPost_ret (v := .agg #[.slice (some ⟨w3.heap.size, 0, none⟩) 0 0]) (by simp [results, Tryz.results39, go_sem, cs]) rfl ⟨_, R.out⟩
  · -- a byte more
    obtain ⟨r, rs, rfl⟩ : ∃ r rs, rows = r :: rs := by
      cases rows with
      | nil => simp at hrl; omega
      | cons r rs => exact ⟨r, rs, rfl⟩
    have hr := hrs r (List.mem_cons_self ..)
    have c0 := D3.own.cellAt 0 (by omega)
    have f0 := D3.own.frozenAt 0
    simp [strs] at c0
    obtain ⟨p1, p0, _, _, _⟩ := D3.facts
    have D4 := fun r => D3.set 0 r
    have q1 := fun r => (D4 r).facts.1
    have r0 := fun r => (D4 r).facts.2.2.1
    have r1 := fun r => (D4 r).facts.2.2.2.1
    have cs := fun r => (D4 r).facts.2.2.2.2
    have R := Lib.hid (fun r => FIN.out _ _ _ _ _ (D4 r))
    have t1 : ¬ 9223372036854775807 < r.size + 1 := by omega
    have hH1 : (0 : Int) < (H : Int) := by omega
    clear FIN D4 D3 hrs
    go_wp2_with fail
    refine bodyPost_ret (v := .agg #[.slice (some ⟨g, 0, none⟩) H c2]) (by simp [results, Tryz.results39, go_sem, cs]) rfl ⟨_, R.out _⟩
  · -- another first byte
    obtain ⟨r, rs, rfl⟩ : ∃ r rs, rows = r :: rs := by
      cases rows with
      | nil => simp at hrl; omega
      | cons r rs => exact ⟨r, rs, rfl⟩
    have hr := hrs r (List.mem_cons_self ..)
    have c0 := fun k => (D3.drewN k).own.cellAt 0 (by omega)
    have f0 := fun k => (D3.drewN k).own.frozenAt 0
    simp [strs] at c0
    have p1 := fun k => (D3.drewN k).facts.1
    have D4 := fun k r => (D3.drewN k).set 0 r
    have q1 := fun k r => (D4 k r).facts.1
    have r0 := fun k r => (D4 k r).facts.2.2.1
    have r1 := fun k r => (D4 k r).facts.2.2.2.1
    have cs := fun k r => (D4 k r).facts.2.2.2.2
    have R := Lib.hid (fun k r => FIN.out _ _ _ _ _ (D4 k r))
    have t1 : ¬ 9223372036854775807 < 1 + (r.extract 1 r.size).size := by rw [ByteArray.size_extract]; omega
    have t2 : (1 : Int) ≤ (r.size : Int) := by omega
    have t3 : 1 ≤ r.size := by omega
    have hH1 : (0 : Int) < (H : Int) := by omega
    clear FIN D4 D3 hrs
    go_wp2_with fail
    refine wp_region_quiet_tail 9 (by kernel_rfl) (by kernel_rfl) ?_
    simp only [List.take_succ_cons, List.take_zero, List.drop_succ_cons, List.drop_zero]
    repeat (go_big_quiet_step (fail))
    refine wpQuiet_nil ?_
    intro _ hw'
    obtain ⟨nq, hw''⟩ := hw'
    subst hw''
    go_wp2_with fail
    refine bodyPost_ret (v := .agg #[.slice (some ⟨g, 0, none⟩) H c2]) (by simp [results, Tryz.results39, go_sem, cs]) rfl ⟨_, R.out nq _⟩
  · -- more rows
    obtain ⟨r, rs, rfl⟩ : ∃ r rs, rows = r :: rs := by
      cases rows with
      | nil => simp at hrl; omega
      | cons r rs => exact ⟨r, rs, rfl⟩
    have hr := hrs r (List.mem_cons_self ..)
    have HD3 := Lib.hid D3
    clear D3 hrs
    go_wp2_with fail
    go_loopw [] (fun wr => ∃ m g cap rs, 1 ≤ m ∧ m ≤ 17 ∧ DwE B w s A n c l (i + 341) pb g m cap (r :: rs) wr) (fun wr => measP pb wr)
    case atStart => exact ⟨H, g, c2, rs, by omega, by omega, HD3.out⟩
    case round =>
      obtain ⟨m, g, cap, rs, hm1, hm, D⟩ := hrel
      by_cases hlt : m ≤ 16
      · obtain ⟨p1, p0, _, _, _⟩ := D.facts
        have c0 := D.own.cellAt 0 (by omega)
        simp [strs] at c0
        have hH1 : (0 : Int) < (m : Int) := by omega
        have hH0 : 0 < m := by omega
        have hH2 : (m : Int) ≤ 16 := by omega
        have O := D.own
        have HD := Lib.hid ((D.drewN 1).alloc (.cells #[.string r] 9))
        have hpw : pb < wr.heap.size := D.box.lt
        have hgw : g < wr.heap.size := (own_at D.own).2
        have hbs : w.heap.size + 1 ≤ wr.heap.size := by have := D.res.lt; omega
        clear D HD3
        go_wp2_with fail
        go_region_law (refine step_app strT (by rfl) _ _ (by rfl) (w.heap.size + 1) (.slice (some ⟨g, 0, none⟩) m cap) m (strs (r :: rs)) (by rfl) (O.alloc _) wr.heap.size #[.string r] (by rfl) (by exact heap_alloc_new wr _) rfl (by simp [Value.oneCell']) (by omega) (by simp; omega) ?_; intro g5 c5 w5 own5 hg5 hat5 hlt5; obtain ⟨sw5, b5, r5⟩ := HD.out.grown hg5; have p5 : w5.cell? ⟨pb, 0, none⟩ = some (.slice (some ⟨g, 0, none⟩) m cap) := (b5.cell 0).trans rfl; have f5 := b5.free 0)
        all_goals
          have e5 : strs (r :: rs) ++ #[Value.string r].toList = strs (r :: (rs ++ [r])) := by simp [strs]
          rw [e5] at own5
          have D5 := Lib.hid (dwe_of sw5 b5 r5 hpb own5 (by have := HD.out.len; simp at this ⊢; omega) (by omega))
          have mm := Lib.hid p1
          clear hg5 hat5 own5 sw5 b5 r5 p5 f5 O c0 p1 p0
          go_wp2_with fail
          go_roundw
          case rel => exact ⟨m + 1, g5, c5, rs ++ [r], by omega, by omega, D5.out⟩
          case measure => 
            have q1 := mm.out
            have q2 := D5.out.facts.1
            simp only [measP, q1, q2]
            omega
      · obtain rfl : m = 17 := by omega
        obtain ⟨q1, _, r0, r1, cs⟩ := D.facts
        have R := Lib.hid (FIN.out _ _ _ _ _ D)
        clear FIN D HD3
        go_wp2_with fail
        refine bodyPost_ret (v := .agg #[.slice (some ⟨g, 0, none⟩) 17 cap]) (by simp [results, Tryz.results39, go_sem, cs]) rfl ⟨_, R.out⟩
  · -- one empty row
    have D4 := (D3.alloc (.cells #[.string (⟨#[]⟩ : ByteArray)] 9)).put (g' := w3.heap.size) (m' := 1) (cap' := 1) (rows' := [(⟨#[]⟩ : ByteArray)]) (World.ownsRow_lit (e := 9) (size := 1) w3 #[.string (⟨#[]⟩ : ByteArray)] 1 (by have := D3.res.lt; omega) (by decide) rfl) rfl (by omega)
    obtain ⟨p1, p0, _, _, _⟩ := (D3.alloc (.cells #[.string (⟨#[]⟩ : ByteArray)] 9)).facts
    obtain ⟨q1, _, r0, r1, cs⟩ := D4.facts
    have R := Lib.hid (FIN.out _ _ _ _ _ D4)
    clear FIN D4 D3
    go_wp2_with fail
    refine bodyPost_ret (v := .agg #[.slice (some ⟨w3.heap.size, 0, none⟩) 1 1]) (by simp [results, Tryz.results39, go_sem, cs]) rfl ⟨_, R.out⟩
  · have k0 : ((k : Int) == 0) = false := by rw [beq_eq_false_iff_ne]; omega
    have k1 : ((k : Int) == 1) = false := by rw [beq_eq_false_iff_ne]; omega
    have k2 : ((k : Int) == 2) = false := by rw [beq_eq_false_iff_ne]; omega
    have k3 : ((k : Int) == 3) = false := by rw [beq_eq_false_iff_ne]; omega
    have k4 : ((k : Int) == 4) = false := by rw [beq_eq_false_iff_ne]; omega
    obtain ⟨q1, _, r0, r1, cs⟩ := D3.facts
    have R := Lib.hid (FIN.out _ _ _ _ _ D3)
    clear FIN D3
    go_wp2_with fail
    refine bodyPost_ret (v := .agg #[.slice (some ⟨g, 0, none⟩) H c2]) (by simp [results, Tryz.results39, go_sem, cs]) rfl ⟨_, R.out⟩
end Go.Proofs.YtdhajndmebnknaaGreat

namespace Go.Proofs.YtdhajndmebnknaaGreat
open Go.RowKit

set_option maxRecDepth 100000 in
set_option maxHeartbeats 4000000 in
theorem ringsD_any (B s : Nat) (A : Option Addr) (n c i : Nat) (l : List Int) (w : World) (h : Src B w s A n c l i) (hn : n ≤ maxLen) (hi : i ≤ 600000) :
    Calls Tryz.prog 18 #[.pointer (some ⟨s, 0, none⟩)] w fun e w' => ∃ rows, rows.length ≤ 100 ∧ RowsRes B w s A n c l (i + 400) e w' rows := by
  obtain ⟨i0, hi', hz0, hz1, hz2⟩ := info_parts boolInfo
  have HMK : Hid (∀ (W H : Nat) (V : World), W ≤ 16 → H ≤ 16 → (Instr.makeSlice 74 (.int .i64 ((W : Int) * H)) (.int .i64 ((W : Int) * H))).run Tryz.prog V = .ok (.slice (some ⟨V.heap.size, 0, none⟩) (W * H) (W * H)) (V.alloc (.cells (boolC (List.replicate (W * H) false)) 4))) := by
    intro W H V hW hH
    have hb : W * H ≤ 256 := Nat.le_trans (Nat.mul_le_mul hW hH) (by decide)
    have hc : (W : Int) * H = ((W * H : Nat) : Int) := by simp
    have h := run_make (P := Tryz.prog) V 74 4 i0 _ Tryz.underlying74 hi' hz0 .i64 .i64 ((W : Int) * H) ((W : Int) * H) (by omega) (Int.le_refl _) (by rw [hz2]; omega) (by omega)
    rw [h, hz1, hc, Int.toNat_natCast]
    show Result.ok _ (V.alloc (.cells (madeCells #[.bool false] (W * H * 1)) _)) = _
    rw [Nat.mul_one, boolC_made]
  have MK := Lib.hid (fun (W H g : Nat) (L : List Bool) (V : World) (hW0 : 0 < W) (hW : W ≤ 16) (hH : H ≤ 16) (hL : L.length = W * H) (hB : Blk V g 4 (boolC L)) => make_any (some ⟨g, 0, none⟩) (W * H) W H L V (fun _ => ⟨g, rfl, hB.lt, fun i hi => by
    have hi2 : i < L.length := by simpa [bools] using hi
    rw [hB.cell i, boolC_get L i hi2]; simp [bools]⟩) hW0 (by omega) (by omega) hL)
  have S1 := (Sw.start h).ext (Ext.more (Ext.refl w) (.cells #[.slice none 0 0] 26))
  have R1 := Blk.made w 26 #[.slice none 0 0]
  have hs := h.at_.le
  have hB := h.high
  have z0 : (w.alloc (.cells #[.slice none 0 0] 26)).heap.size = w.heap.size + 1 := by simp
  clear h hi' hz0 hz1 hz2
  go_enter Tryz.func18, Tryz.ntmps18
  go_wp2_with fail
  generalize w.alloc (.cells #[.slice none 0 0] 26) = w1 at *
  refine (S1.one hn (by omega) 2 (by decide) (by decide)).mono ?_
  rintro e w2 ⟨b, rfl, S2, o2⟩
  have R2 := o2.keep R1 (by omega)
  have z2 : w.heap.size + 1 ≤ w2.heap.size := by have := o2.size; omega
  clear S1 R1 o2
  cases b
  · go_wp2_with fail
    refine (S2.pick hn (by omega) 8 (by decide) (by decide)).mono ?_
    rintro e w3 ⟨k3, hk3, rfl, S3, o3⟩
    have R3 := o3.keep R2 (by omega)
    have z3 : w.heap.size + 1 ≤ w3.heap.size := by have := o3.size; omega
    clear S2 R2 o3
    go_wp2_with fail
    refine (S3.pick hn (by omega) 8 (by decide) (by decide)).mono ?_
    rintro e w4 ⟨k4, hk4, rfl, S4, o4⟩
    have R4 := o4.keep R3 (by omega)
    have z4 : w.heap.size + 1 ≤ w4.heap.size := by have := o4.size; omega
    clear S3 R3 o4
    obtain ⟨W, hW⟩ : ∃ W, k3 + 3 = W := ⟨_, rfl⟩
    obtain ⟨H, hH⟩ : ∃ H, k4 + 3 = H := ⟨_, rfl⟩
    have e3 : (3 : Int) + (k3 : Int) = (W : Int) := by omega
    have e4 : (3 : Int) + (k4 : Int) = (H : Int) := by omega
    have W3 : 3 ≤ W ∧ W ≤ 10 := by omega
    have H3 : 3 ≤ H ∧ H ≤ 10 := by omega
    have mk4 := HMK.out W H w4 (by omega) (by omega)
    have hb : W * H ≤ 10 * 10 := Nat.mul_le_mul (by omega) (by omega)
    have hc : (W : Int) * H = ((W * H : Nat) : Int) := by simp
    have hm1 : (W : Int) * H ≤ 256 := by omega
    have hm0 : (0 : Int) ≤ (W : Int) * H := by omega
    have HHB := Lib.hid (And.intro hb hc)
    clear hb hc
    obtain ⟨j4, hj4, SS4⟩ := S4.src
    have D4 : DrawInvG B w s A n c l w.heap.size w4.heap.size (W * H) (i + 3) (w4.alloc (.cells (boolC (List.replicate (W * H) false)) 4)) := by
      refine ⟨⟨j4, by omega, SS4.ext (Ext.more (Ext.refl _) _)⟩, R4.more _, ⟨List.replicate (W * H) false, List.length_replicate, Blk.made _ _ _⟩, S4.chg.ext (Ext.more (Ext.refl w4) _), by omega, Nat.le_refl _, hs⟩
    have HMK4 := Lib.hid (fun g L V hL hB => MK.out W H g L V (by omega) (by omega) (by omega) hL hB)
    have gz : w.heap.size ≤ w4.heap.size := by omega
    clear HMK MK S4 R4 SS4 hW hH hk3 hk4
    try rw [e3]
    go_wp2_with fail
    generalize w4.alloc (.cells (boolC (List.replicate (W * H) false)) 4) = w5 at *
    refine (D4.pick hn (by omega) 4 (by decide) (by decide)).mono ?_
    rintro e w6 ⟨k5, hk5, rfl, D5⟩
    clear D4 mk4
    go_wp2_with fail
    go_loopw [6] (fun v wr => ∃ k : Nat, k ≤ 4 ∧ v = .int .i64 k ∧ DrawInvG B w s A n c l w.heap.size w4.heap.size (W * H) (i + 4 + 4 * (4 - k)) wr) (fun v _ => (intOf v).toNat)
    case atStart => exact ⟨k5 + 1, by omega, by go_num, D5.le (by omega)⟩
    case round =>
      obtain ⟨q, hq, rfl, D⟩ := hrel
      clear D5
      by_cases hz : q = 0
      · subst hz
        obtain ⟨L, hL, hBL⟩ := D.list
        have M := Lib.hid (HMK4.out _ _ _ hL hBL)
        have HD := Lib.hid D
        have HLL := Lib.hid hL
        clear D hBL hL HMK4
        go_wp2_with fail
        refine M.out.mono ?_
        rintro e w7 ⟨A7, c7, rfl, own7, hb7⟩
        have hR := HD.out.res.under hb7 HD.out.res.lt
        have f0 := hR.free 0
        have c0 := hR.cell 0
        have cs := (hR.store 0 (.slice A7 H c7)).cell 0
        simp at c0 cs
        have hgr := HD.out.chg.size
        have hRlt := HD.out.res.lt
        have RR : Hid (RowsRes B w s A n c l (i + 400) (.returned (.agg #[.slice A7 H c7])) (w7.setCell ⟨w.heap.size, 0, none⟩ (.slice A7 H c7)) (rowsTo L W H)) := by
          refine ⟨A7, c7, by rw [rowsTo_length], ?_, ⟨HD.out.srcAt hb7 (.slice A7 H c7) (i' := i + 400) (by omega), (HD.out.chg.ext hb7).store (p := ⟨w.heap.size, 0, none⟩) (.inr (Nat.le_refl _)) _, hs⟩⟩
          rw [rowsTo_length]
          exact own_base (ownsRow_setCell_below own7 (a := ⟨w.heap.size, 0, none⟩) (by show w.heap.size < wr.heap.size; omega) _) hgr
        clear own7 hb7 hR M HD
        go_wp2_with fail
        refine bodyPost_ret (v := .agg #[.slice A7 H c7]) (by simp [results, Tryz.results18, go_sem, cs]) rfl ⟨_, by rw [rowsTo_length]; omega, RR.out⟩
      · have t0 : (0 : Int) < (q : Int) := by omega
        go_wp2_with fail
        refine (D.pick hn (by omega) W (by omega) (by omega)).mono ?_
        rintro e w6 ⟨x, hx, rfl, D6⟩
        clear D
        go_wp2_with fail
        refine (D6.pick hn (by omega) H (by omega) (by omega)).mono ?_
        rintro e w7 ⟨y, hy, rfl, D7⟩
        clear D6
        go_wp2_with fail
        refine (D7.pick hn (by omega) ((W : Int) - x) (by omega) (by omega)).mono ?_
        rintro e w8 ⟨wd, hwd, rfl, D8⟩
        clear D7
        go_wp2_with fail
        refine (D8.pick hn (by omega) ((H : Int) - y) (by omega) (by omega)).mono ?_
        rintro e w9 ⟨ht, hht, rfl, D9⟩
        clear D8
        go_wp2_with fail
        go_loopw [56] (fun v wr => ∃ k : Nat, k ≤ W * H ∧ v = .int .i64 k ∧ DrawInvG B w s A n c l w.heap.size w4.heap.size (W * H) (i + 4 + 4 * (4 - q) + 4) wr) (fun v _ => W * H - (intOf v).toNat)
        case atStart => exact ⟨0, Nat.zero_le _, rfl, D9⟩
        case round =>
          obtain ⟨k, hk, rfl, D⟩ := hrel
          clear D9
          by_cases hlt : k < W * H
          · have i1 : (k : Int) < ((W * H : Nat) : Int) := by omega
            have i2 : (0 : Int) ≤ (k : Int) := by omega
            have iW : (W : Int) ≠ 0 := by omega
            obtain ⟨⟨u, cu⟩, fu⟩ := D.cells hlt
            have D3 := Lib.hid (fun b => D.put k b)
            have D4 := Lib.hid D
            clear D
            go_wp2_with fail
            all_goals
              refine (inS_exG _ _ _ _).mono ?_
              rintro e w11 ⟨b1, rfl, rfl⟩
              cases b1
              · go_wp2_with fail
                go_roundw
                case rel => exact ⟨k + 1, by omega, by go_num, D4.out⟩
                case measure => simp [intOf]; omega
              · go_wp2_with fail
                refine (inS_exG _ _ _ _).mono ?_
                rintro e w12 ⟨b2, rfl, rfl⟩
                cases b2
                · go_wp2_with fail
                  go_roundw
                  case rel => exact ⟨k + 1, by omega, by go_num, D4.out⟩
                  case measure => simp [intOf]; omega
                · go_wp2_with fail
                  go_roundw
                  case rel => exact ⟨k + 1, by omega, by go_num, D3.out _⟩
                  case measure => simp [intOf]; omega
          · obtain rfl : k = W * H := by omega
            go_wp2_with fail
            go_roundw
            case rel => exact ⟨q - 1, by omega, by simp; omega, D.le (by omega)⟩
            case measure => simp [intOf]; omega
  · obtain ⟨j, hj, SS⟩ := S2.src
    have DR := Lib.hid (drawR_any B s A n c j l w2 SS hn (by omega))
    have C2 := Lib.hid S2.chg
    clear S2 SS MK HMK
    go_wp2_with fail
    refine DR.out.mono ?_
    rintro e w3 ⟨rows, hrl, A3, c3, rfl, own3, S3⟩
    have R3 := Chg.blk S3.chg R2 (by rintro (e | e) <;> omega)
    have c0 := R3.cell 0
    have f0 := R3.free 0
    simp at c0
    have cs := (R3.store 0 (.slice A3 rows.length c3)).cell 0
    simp at cs
    have RR : Hid (RowsRes B w s A n c l (i + 400) (.returned (.agg #[.slice A3 rows.length c3])) (w3.setCell ⟨w.heap.size, 0, none⟩ (.slice A3 rows.length c3)) rows) := by
      refine ⟨A3, c3, rfl, ?_, Sw.store ⟨?_, C2.out.trans (S3.chg.mono fun k hk => hk.imp id fun h => by omega), hs⟩ (p := ⟨w.heap.size, 0, none⟩) (Nat.le_refl _) _⟩
      · exact own_base (ownsRow_setCell_below own3 (a := ⟨w.heap.size, 0, none⟩) (by show w.heap.size < w2.heap.size; omega) _) (by omega)
      · obtain ⟨j3, hj3, SS3⟩ := S3.src
        exact ⟨j3, by omega, SS3⟩
    clear own3 S3 C2 DR
    go_wp2_with fail
    refine bodyPost_ret (v := .agg #[.slice A3 rows.length c3]) (by simp [results, Tryz.results18, go_sem, cs]) rfl ⟨_, hrl, RR.out⟩
end Go.Proofs.YtdhajndmebnknaaGreat

namespace Go.Proofs.YtdhajndmebnknaaGreat
open Go.RowKit

def ringRows : List ByteArray := [⟨#[35, 35, 35]⟩, ⟨#[35, 46, 35]⟩, ⟨#[35, 35, 35]⟩]
theorem ringRows_ok : picOk ringRows = true ∧ ringRows.length = 3 ∧ picW ringRows = 3 := by decide
/-- Rows of a drawn picture that a law speaks of. -/
def RingRes (w : World) (e : Ending) (w' : World) : Prop :=
  ∃ A2 c2 rows, e = .returned (.agg #[.slice A2 rows.length c2]) ∧ w'.ownsRow w.heap.size 9 1 (.slice A2 rows.length c2) rows.length (strs rows) ∧ picOk rows = true ∧ rows.length ≤ 12 ∧ picW rows ≤ 12 ∧ Below w.heap.size w w'
set_option maxRecDepth 100000 in
set_option maxHeartbeats 2000000 in
theorem b10Rings_any (A : Option Addr) (n c : Nat) (l : List Int) (w : World) (hl : BytesAt w A n l) (hn : n ≤ maxLen) :
    Calls Tryz.prog 5 #[.slice A n c] w (RingRes w) := by
  have R0 := Blk.made w 26 #[.slice none 0 0]
  have B0 := Ext.more (Ext.refl w) (.cells #[.slice none 0 0] 26)
  have F0 := Lib.hid (from0_any A n c l _ (hl.ext B0))
  have z0 : (w.alloc (.cells #[.slice none 0 0] 26)).heap.size = w.heap.size + 1 := by simp
  clear hl
  go_enter Tryz.func5, Tryz.ntmps5
  go_wp2_with fail
  generalize w.alloc (.cells #[.slice none 0 0] 26) = w1 at *
  refine F0.out.mono ?_
  rintro e w2 ⟨s, rfl, S2, hb2⟩
  have R2 := R0.under hb2 R0.lt
  have B2 := Ext.then_ B0 hb2
  have hs2 := S2.high
  have RG := Lib.hid (ringsD_any w1.heap.size s A n c 0 l w2 S2 hn (by omega))
  have z2 := hb2.size
  clear R0 B0 F0 S2 hb2
  go_wp2_with fail
  refine RG.out.mono ?_
  rintro e w3 ⟨rows, hrl, A3, c3, rfl, own3, S3⟩
  have R3 := Chg.blk S3.chg R2 (by rintro (e | e) <;> omega)
  have B3 : Below w.heap.size w w3 := B2.trans (Chg.below S3.chg (fun k hk => by rcases hk with rfl | hk <;> omega) (by omega))
  have z3 := S3.size
  have X3 := Ext.more (Ext.refl w3) (.cells #[.slice A3 rows.length c3] 26)
  have R4 := R3.more (.cells #[.slice A3 rows.length c3] 26)
  have own4 := own_ext X3 own3
  have P4 : PicAt (w3.alloc (.cells #[.slice A3 rows.length c3] 26)) w3.heap.size A3 c3 rows := ⟨by simp, (Blk.made w3 _ _).cell 0, (Rd.of_own own3).ext X3⟩
  have B4 := Ext.more B3 (.cells #[.slice A3 rows.length c3] 26)
  have IS := Lib.hid (isPic_any w3.heap.size A3 c3 rows _ P4 (by omega))
  have PC := P4.cell
  have PL := P4.lt
  have z4 : (w3.alloc (.cells #[.slice A3 rows.length c3] 26)).heap.size = w3.heap.size + 1 := by simp
  clear S3 RG R2 B2 R3 B3 X3 own3
  -- the literal picture
  have LIT : Hid (∀ V : World, Blk V w.heap.size 26 #[.slice none 0 0] → Below w.heap.size w V → RingRes w (.returned (.agg #[.slice (some ⟨V.heap.size, 0, none⟩) 3 3])) ((V.alloc (.cells #[.string ⟨#[35, 35, 35]⟩, .string ⟨#[35, 46, 35]⟩, .string ⟨#[35, 35, 35]⟩] 9)).setCell ⟨w.heap.size, 0, none⟩ (.slice (some ⟨V.heap.size, 0, none⟩) 3 3))) := by
    intro V hR hB
    refine ⟨some ⟨V.heap.size, 0, none⟩, 3, ringRows, rfl, ?_, ringRows_ok.1, by decide, by rw [ringRows_ok.2.2]; decide, ?_⟩
    · have := World.ownsRow_lit (base := w.heap.size) (e := 9) (size := 1) V #[.string ⟨#[35, 35, 35]⟩, .string ⟨#[35, 46, 35]⟩, .string ⟨#[35, 35, 35]⟩] 3 hB.size (by decide) rfl
      exact own_apart this (p := ⟨w.heap.size, 0, none⟩) (by have := hR.lt; show V.heap.size ≠ w.heap.size; omega) _
    · exact (Ext.more hB _).setCell (p := ⟨w.heap.size, 0, none⟩) (Nat.le_refl _) _
  have RC : Hid (∀ V : World, Blk V w.heap.size 26 #[.slice none 0 0] → (V.cell? ⟨w.heap.size, 0, none⟩ = some (.slice none 0 0) ∧ V.frozen? ⟨w.heap.size, 0, none⟩ = false) ∧ ∀ v, (V.setCell ⟨w.heap.size, 0, none⟩ v).cell? ⟨w.heap.size, 0, none⟩ = some v) := fun V h =>
    ⟨⟨(h.cell 0).trans rfl, h.free 0⟩, fun v => by have := (h.store 0 v).cell 0; simpa using this⟩
  cases hok : picOk rows
  · rw [hok] at IS
    have R4' := Lib.hid R4
    have B4' := Lib.hid B4
    clear hok P4 own4 R4 B4
    go_wp2_with fail
    refine IS.out.mono ?_
    rintro e w5 ⟨rfl, k, rfl⟩
    have R5 : Blk ((w3.alloc (.cells #[.slice A3 rows.length c3] 26)).drewN k) w.heap.size 26 #[.slice none 0 0] := R4'.out
    have B5 := Ext.drawN B4'.out k
    generalize (w3.alloc (.cells #[.slice A3 rows.length c3] 26)).drewN k = w5 at *
    obtain ⟨⟨q0, q1⟩, _⟩ := RC.out w5 R5
    have R6 := R5.more (.cells #[.string ⟨#[35, 35, 35]⟩, .string ⟨#[35, 46, 35]⟩, .string ⟨#[35, 35, 35]⟩] 9)
    obtain ⟨⟨q2, q3⟩, q4⟩ := RC.out _ R6
    have L := Lib.hid (LIT.out w5 R5 B5)
    clear LIT RC R5 R6 B5 IS R4' B4'
    go_wp2_with fail
    refine bodyPost_ret (v := .agg #[.slice (some ⟨w5.heap.size, 0, none⟩) 3 3]) (by simp [results, Tryz.results5, go_sem, q4]) rfl L.out
  · obtain ⟨s1, s2, s3, s4⟩ := picOk_sizes hok
    rw [hok] at IS
    have R4' := Lib.hid R4
    have B4' := Lib.hid B4
    have OW := Lib.hid own4
    obtain ⟨ga, rfl, hga, hrow⟩ := P4.row (by omega)
    have c0 := hrow 0 (by omega)
    have e0 : (rows[0]'(by omega)).size = picW rows := by
      cases rows with
      | nil => simp at s1
      | cons r rs => rfl
    have HOK := Lib.hid hok
    have CK : Hid (∀ k, ((w3.alloc (.cells #[.slice (some ⟨ga, 0, none⟩) rows.length c3] 26)).drewN k).cell? ⟨ga, 0, none⟩ = some (.string (rows[0]'(by omega)))) := fun k => c0
    clear P4 own4 R4 B4 hrow hok
    have PC' : Hid (∀ k, ((w3.alloc (.cells #[.slice (some ⟨ga, 0, none⟩) rows.length c3] 26)).drewN k).cell? ⟨w3.heap.size, 0, none⟩ = some (.slice (some ⟨ga, 0, none⟩) rows.length c3)) := fun k => PC
    obtain ⟨r0, hr0⟩ : ∃ r0, rows[0]'(by omega) = r0 := ⟨_, rfl⟩
    rw [hr0] at e0
    have CK' : Hid (∀ k, ((w3.alloc (.cells #[.slice (some ⟨ga, 0, none⟩) rows.length c3] 26)).drewN k).cell? ⟨ga, 0, none⟩ = some (.string r0)) := fun k => (CK.out k).trans (by rw [hr0])
    have HBIG : Hid (rows.length ≤ 12 → r0.size ≤ 12 → RingRes w (.returned (.agg #[.slice (some ⟨ga, 0, none⟩) rows.length c3])) (((w3.alloc (.cells #[.slice (some ⟨ga, 0, none⟩) rows.length c3] 26))).setCell ⟨w.heap.size, 0, none⟩ (.slice (some ⟨ga, 0, none⟩) rows.length c3))) := fun h1 h2 =>
      ⟨some ⟨ga, 0, none⟩, c3, rows, rfl, own_base (own_apart (own_base OW.out (show w.heap.size ≤ w2.heap.size by omega)) (p := ⟨w.heap.size, 0, none⟩) (by have := (own_at OW.out).1; show ga ≠ w.heap.size; omega) _) (Nat.le_refl _), HOK.out, h1, by rw [← e0]; exact h2, B4'.out.setCell (p := ⟨w.heap.size, 0, none⟩) (Nat.le_refl _) _⟩
    have HB2 : Hid (∀ k, rows.length ≤ 12 → r0.size ≤ 12 → RingRes w (.returned (.agg #[.slice (some ⟨ga, 0, none⟩) rows.length c3])) (((w3.alloc (.cells #[.slice (some ⟨ga, 0, none⟩) rows.length c3] 26)).drewN k).setCell ⟨w.heap.size, 0, none⟩ (.slice (some ⟨ga, 0, none⟩) rows.length c3))) := fun k h1 h2 => by
      obtain ⟨A, c, rows', q1, q2, q3, q4, q5, q6⟩ := HBIG.out h1 h2
      exact ⟨A, c, rows', q1, own_ext (w := (w3.alloc (.cells #[.slice (some ⟨ga, 0, none⟩) rows.length c3] 26)).setCell ⟨w.heap.size, 0, none⟩ (.slice (some ⟨ga, 0, none⟩) rows.length c3)) (Ext.drawN (Ext.refl _) k) q2, q3, q4, q5, Ext.drawN q6 k⟩
    clear hr0 CK HBIG HOK e0 c0
    have t0 : 0 < rows.length := by omega
    have t1 : (0 : Int) < (rows.length : Int) := by omega
    have KK : Hid (∀ k V, V = (w3.alloc (.cells #[.slice (some ⟨ga, 0, none⟩) rows.length c3] 26)).drewN k → Blk V w.heap.size 26 #[.slice none 0 0] ∧ Below w.heap.size w V) := fun k V e => by subst e; exact ⟨R4'.out, Ext.drawN B4'.out k⟩
    clear R4' B4' OW
    by_cases h12 : rows.length ≤ 12
    · have q1 : (rows.length : Int) ≤ 12 := by omega
      have q2 : ¬ (12 : Int) < (rows.length : Int) := by omega
      by_cases h13 : r0.size ≤ 12
      · have q3 : ¬ (12 : Int) < (r0.size : Int) := by omega
        go_wp2_with fail
        refine IS.out.mono ?_
        rintro e w5 ⟨rfl, k, hw5⟩
        have ck := CK'.out k
        have pk := PC'.out k
        have F := Lib.hid (HB2.out k h12 h13)
        rw [← hw5] at ck pk F
        obtain ⟨R5, B5⟩ := KK.out k w5 hw5
        obtain ⟨⟨g0, g1⟩, g2⟩ := RC.out w5 R5
        clear R5 B5 hw5 HB2 CK' PC' KK LIT RC IS PC
        go_wp2_with fail
        refine bodyPost_ret (v := .agg #[.slice (some ⟨ga, 0, none⟩) rows.length c3]) (by simp [results, Tryz.results5, go_sem, g2]) rfl F.out
      · have q3 : (12 : Int) < (r0.size : Int) := by omega
        go_wp2_with fail
        refine IS.out.mono ?_
        rintro e w5 ⟨rfl, k, hw5⟩
        have ck := CK'.out k
        have pk := PC'.out k
        rw [← hw5] at ck pk
        obtain ⟨R5, B5⟩ := KK.out k w5 hw5
        have R6 := R5.more (.cells #[.string ⟨#[35, 35, 35]⟩, .string ⟨#[35, 46, 35]⟩, .string ⟨#[35, 35, 35]⟩] 9)
        obtain ⟨⟨g0, g1⟩, g2⟩ := RC.out _ R6
        have L := Lib.hid (LIT.out w5 R5 B5)
        clear R5 B5 R6 hw5 HB2 CK' PC' KK LIT RC IS PC
        go_wp2_with fail
        refine bodyPost_ret (v := .agg #[.slice (some ⟨w5.heap.size, 0, none⟩) 3 3]) (by simp [results, Tryz.results5, go_sem, g2]) rfl L.out
    · have q1 : (12 : Int) < (rows.length : Int) := by omega
      go_wp2_with fail
      refine IS.out.mono ?_
      rintro e w5 ⟨rfl, k, hw5⟩
      have ck := CK'.out k
      have pk := PC'.out k
      rw [← hw5] at ck pk
      obtain ⟨R5, B5⟩ := KK.out k w5 hw5
      have R6 := R5.more (.cells #[.string ⟨#[35, 35, 35]⟩, .string ⟨#[35, 46, 35]⟩, .string ⟨#[35, 35, 35]⟩] 9)
      obtain ⟨⟨g0, g1⟩, g2⟩ := RC.out _ R6
      have L := Lib.hid (LIT.out w5 R5 B5)
      clear R5 B5 R6 hw5 HB2 CK' PC' KK LIT RC IS PC
      go_wp2_with fail
      refine bodyPost_ret (v := .agg #[.slice (some ⟨w5.heap.size, 0, none⟩) 3 3]) (by simp [results, Tryz.results5, go_sem, g2]) rfl L.out
end Go.Proofs.YtdhajndmebnknaaGreat
