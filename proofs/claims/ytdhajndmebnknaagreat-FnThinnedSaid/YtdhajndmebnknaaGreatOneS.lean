/- Whether just one part of the pixels of a colour around a pixel has a neighbour of it: the program's. Printed by gen_ones.py. -/
import Derived.Test.YtdhajndmebnknaaGreatCon
import Derived.Test.YtdhajndmebnknaaGreatImgG
import Derived.Test.YtdhajndmebnknaaGreatThP
import Derived.Test.YtdhajndmebnknaaGreatAr8
import Derived.Test.YtdhajndmebnknaaGreatTopL
import Derived.Deep.RegionHeld3
import Derived.Deep.RegionLaw
namespace Go.Proofs.YtdhajndmebnknaaGreat
open Go.RowKit

/-- The pixels of a colour around a pixel, in the order in which they are looked at. -/
def ringL (L : List Bool) (W H : Nat) (b : Bool) (z : Int × Int) : List (Int × Int) := (ar8 z.1 z.2).filter fun q => bit L W H q.1 q.2 == b
theorem mem_ringL {L : List Bool} {W H : Nat} {b : Bool} {z q : Int × Int} : decide (q ∈ ringL L W H b z) = ringB L W H b z q := by
  rw [Bool.eq_iff_iff, decide_eq_true_iff, ringL, List.mem_filter, ringB, Bool.and_eq_true, decide_eq_true_iff]
  exact Iff.rfl
theorem okB_ring (L : List Bool) (W H : Nat) (b : Bool) {z : Int × Int} (hx : -18 ≤ z.1 ∧ z.1 ≤ 18) (hy : -18 ≤ z.2 ∧ z.2 ≤ 18) : OkB (ringB L W H b z) 9 where
  pos := by
    refine ⟨fun q => ((q.2 - z.2 + 1) * 3 + (q.1 - z.1 + 1)).toNat, fun q hq => ?_, fun a c ha hc e => ?_⟩
    · have h := (ringB_iff.1 hq).1
      unfold A8 A4 at h
      simp only
      omega
    · have h1 := (ringB_iff.1 ha).1
      have h2 := (ringB_iff.1 hc).1
      unfold A8 A4 at h1 h2
      simp only at e
      refine Prod.ext ?_ ?_ <;> omega
  bd q hq := by
    have h := (ringB_iff.1 hq).1
    unfold A8 A4 at h
    omega
/-- What the program finds out. -/
theorem side_of {L : List Bool} {W H : Nat} {b e : Bool} {z : Int × Int} {n0 : Int × Int} (h0 : n0 ∈ nbC e z) (hr : ringB L W H b z n0 = true) {N : Nat} (OB : OkB (ringB L W H b z) N) :
    (!(ringL L W H b z).any fun q => decide (q ∈ nbC e z) && !(rchF (nbC e) (ringB L W H b z) N n0 q).isSome) = sideD L W H b e z := by
  have RI : ∀ q, (rchF (nbC e) (ringB L W H b z) N n0 q).isSome = true ↔ Rch (nbC e) (ringB L W H b z) n0 q := fun q => rchB_iff OB hr
  have sy := nbC_sym e
  rw [Bool.eq_iff_iff, sideD, dec_iff, Bool.not_eq_true', List.any_eq_false]
  constructor
  · intro h
    have K : ∀ q, q ∈ nbC e z → ringB L W H b z q = true → Rch (nbC e) (ringB L W H b z) n0 q := fun q h1 h2 => by
      rw [← mem_ringL, decide_eq_true_iff] at h2
      have := h q h2
      rw [← RI]
      cases hx : (rchF (nbC e) (ringB L W H b z) N n0 q).isSome with
      | true => rfl
      | false => exfalso; apply this; rw [hx]; simp [h1]
    exact ⟨⟨n0, h0, hr⟩, fun n n' h1 h2 h3 h4 => ((K n h1 h3).sym sy).tr (K n' h2 h4)⟩
  · intro h q hq
    rw [← decide_eq_true_iff (p := q ∈ ringL L W H b z), mem_ringL] at hq
    by_cases h1 : q ∈ nbC e z
    · have := (RI q).2 (h.2 n0 q h0 h1 hr hq)
      rw [this]; simp
    · simp [h1]
theorem side_no {L : List Bool} {W H : Nat} {b e : Bool} {z : Int × Int} (h : ∀ q ∈ ringL L W H b z, ¬ q ∈ nbC e z) : sideD L W H b e z = false := by
  cases hs : sideD L W H b e z with
  | false => rfl
  | true =>
    rw [sideD, dec_iff] at hs
    obtain ⟨n, h1, h2⟩ := hs.1
    rw [← mem_ringL, decide_eq_true_iff] at h2
    exact absurd h1 (h n h2)
theorem enters_ones1 : Enters 73 := enters_of Tryz.func73 (by kernel_rfl) (by kernel_rfl)
set_option maxHeartbeats 1000000 in
theorem ones1_any (m g n c : Nat) (l : List (Int × Int)) (x y : Int) (w : World) (hm : Blk w m 80 #[.slice (some ⟨g, 0, none⟩) n c]) (hl : SpAt w g l) (hn : l.length = n) (hn2 : n ≤ 1000) :
    Calls Tryz.prog 73 (#[.agg #[.int .i64 x, .int .i64 y]] ++ #[.pointer (some ⟨m, 0, none⟩)]) w fun e w' => e = .returned (.bool (decide ((x, y) ∈ l))) ∧ Below w.heap.size w w' := by
  have B0 : Below w.heap.size w (w.alloc (.cells #[.int .i64 x, .int .i64 y] 38)) := Ext.more (Ext.refl _) _
  have k3 : (w.alloc (.cells #[.int .i64 x, .int .i64 y] 38)).cell? ⟨w.heap.size, 0, none⟩ = some (.int .i64 x) := cell_new w _ _ 0
  have k4 : (w.alloc (.cells #[.int .i64 x, .int .i64 y] 38)).cell? ⟨w.heap.size, 1, none⟩ = some (.int .i64 y) := cell_new w _ _ 1
  have c0 := (hm.under B0 hm.lt).cell 0
  simp at c0
  have C := Lib.hid (containsSp_any g c n l x y _ (hl.ext B0) hn hn2)
  clear hm hl hn
  generalize decide ((x, y) ∈ l) = b at *
  go_enter Tryz.func73, Tryz.ntmps73
  go_wp2_with fail
  refine C.out.mono ?_
  rintro e w2 ⟨rfl, hb2⟩
  go_wp2_with fail
  go_ret
  exact ⟨rfl, Ext.then_ B0 hb2⟩
theorem enters_ones2 : Enters 75 := enters_of Tryz.func75 (by kernel_rfl) (by kernel_rfl)
set_option maxHeartbeats 1000000 in
theorem ones2_any (m g n c : Nat) (l : List (Int × Int)) (x y : Int) (w : World) (hm : Blk w m 80 #[.slice (some ⟨g, 0, none⟩) n c]) (hl : SpAt w g l) (hn : l.length = n) (hn2 : n ≤ 1000) :
    Calls Tryz.prog 75 (#[.agg #[.int .i64 x, .int .i64 y]] ++ #[.pointer (some ⟨m, 0, none⟩)]) w fun e w' => e = .returned (.bool (decide ((x, y) ∈ l))) ∧ Below w.heap.size w w' := by
  have B0 : Below w.heap.size w (w.alloc (.cells #[.int .i64 x, .int .i64 y] 38)) := Ext.more (Ext.refl _) _
  have k3 : (w.alloc (.cells #[.int .i64 x, .int .i64 y] 38)).cell? ⟨w.heap.size, 0, none⟩ = some (.int .i64 x) := cell_new w _ _ 0
  have k4 : (w.alloc (.cells #[.int .i64 x, .int .i64 y] 38)).cell? ⟨w.heap.size, 1, none⟩ = some (.int .i64 y) := cell_new w _ _ 1
  have c0 := (hm.under B0 hm.lt).cell 0
  simp at c0
  have C := Lib.hid (containsSp_any g c n l x y _ (hl.ext B0) hn hn2)
  clear hm hl hn
  generalize decide ((x, y) ∈ l) = b at *
  go_enter Tryz.func75, Tryz.ntmps75
  go_wp2_with fail
  refine C.out.mono ?_
  rintro e w2 ⟨rfl, hb2⟩
  go_wp2_with fail
  go_ret
  exact ⟨rfl, Ext.then_ B0 hb2⟩
theorem enters_ones3 : Enters 77 := enters_of Tryz.func77 (by kernel_rfl) (by kernel_rfl)
theorem zeroBoolO (w : World) : (zeroValue 4).run Tryz.prog w = .ok (.bool false) w := by kernel_rfl
set_option maxHeartbeats 1000000 in
theorem ones3_any (m g n c p M : Nat) (l : List (Int × Int)) (f : Int × Int → Option Nat) (x y : Int) (w : World) (hm : Blk w m 80 #[.slice (some ⟨g, 0, none⟩) n c]) (hl : SpAt w g l) (hn : l.length = n) (hn2 : n ≤ 1000) (hp : Blk w p 82 #[.map (some M)]) (hM : MapF spV spOk w M (bv f)) (hx : -900 ≤ x ∧ x ≤ 900) (hy : -900 ≤ y ∧ y ≤ 900) :
    Calls Tryz.prog 77 (#[.agg #[.int .i64 x, .int .i64 y]] ++ #[.pointer (some ⟨m, 0, none⟩), .pointer (some ⟨p, 0, none⟩)]) w fun e w' => e = .returned (.bool (decide ((x, y) ∈ l) && !(f (x, y)).isSome)) ∧ Below w.heap.size w w' := by
  have B0 : Below w.heap.size w (w.alloc (.cells #[.int .i64 x, .int .i64 y] 38)) := Ext.more (Ext.refl _) _
  have k3 : (w.alloc (.cells #[.int .i64 x, .int .i64 y] 38)).cell? ⟨w.heap.size, 0, none⟩ = some (.int .i64 x) := cell_new w _ _ 0
  have k4 : (w.alloc (.cells #[.int .i64 x, .int .i64 y] 38)).cell? ⟨w.heap.size, 1, none⟩ = some (.int .i64 y) := cell_new w _ _ 1
  have T1 := Blk.made w 38 #[.int .i64 x, .int .i64 y]
  have c0 := (hm.under B0 hm.lt).cell 0
  simp at c0
  have C := Lib.hid (containsSp_any g c n l x y _ (hl.ext B0) hn hn2)
  have P0 := hp.under B0 hp.lt
  have M0 := hM.ext B0
  have QK : Hid (spOk (x, y)) := by unfold Hid spOk; simp only; omega
  have GT : Hid ((bv f (x, y)).getD (.bool false) = .bool (f (x, y)).isSome) := by rw [Hid, bs_bv, bs_get]
  clear hm hl hn hp hM
  generalize decide ((x, y) ∈ l) = b at *
  generalize (f (x, y)).isSome = pb at *
  cases b
  · go_enter Tryz.func77, Tryz.ntmps77
    go_wp2_with fail
    refine C.out.mono ?_
    rintro e w2 ⟨rfl, hb2⟩
    go_wp2_with fail
    go_ret
    exact ⟨rfl, Ext.then_ B0 hb2⟩
  · go_enter Tryz.func77, Tryz.ntmps77
    go_wp2_with fail
    refine C.out.mono ?_
    rintro e w2 ⟨rfl, hb2⟩
    have P2 := P0.under hb2 P0.lt
    have M2 := M0.ext hb2
    have T2 := T1.under hb2 T1.lt
    have q0 := P2.cell 0
    have q3 := T2.cell 0
    have q4 := T2.cell 1
    simp at q0 q3 q4
    have LK : (Instr.lookup 82 (.map (some M)) (.agg #[.int .i64 x, .int .i64 y]) false).run Tryz.prog w2 = .ok (.bool pb) w2 := by
      have := MapF.lookup spotK M2 Tryz.underlying82 (zeroBoolO w2) (x, y) QK.out false
      rw [GT.out] at this
      exact this
    have BB := Lib.hid (Ext.then_ B0 hb2)
    clear P0 P2 M0 M2 T1 T2 hb2
    go_wp2_with fail
    go_ret
    exact ⟨rfl, BB.out⟩
theorem grownBelow {w w' : World} {g B : Nat} (hg : w.grownBy w' (some g)) (h1 : B ≤ g) (h2 : B ≤ w.heap.size) : Below B w w' :=
  Chg.below (S := fun b => b = g ∨ w.heap.size ≤ b) ⟨hg.os, hg.tape, hg.output, hg.size, fun k hk hn => hg.block k hk (fun e => hn (.inl (by injection e)))⟩ (fun k hk => by rcases hk with rfl | hk <;> omega) h2
theorem own_atO {w : World} {base : Nat} {e : TypeId} {size g n cap : Nat} {xs : List Value} (h : w.ownsRow base e size (.slice (some ⟨g, 0, none⟩) n cap) n xs) : base ≤ g ∧ g < w.heap.size := by
  rcases h.2 with ⟨h', _⟩ | ⟨g', cap', cur, hv, hb, hh, hr⟩
  · simp at h'
  · simp only [Value.slice.injEq, Option.some.injEq, Addr.mk.injEq, and_true, true_and] at hv
    obtain ⟨rfl, rfl⟩ := hv
    exact ⟨hb, Blk.lt hh⟩
theorem own_apartO {w : World} {base : Nat} {e : TypeId} {size g n cap : Nat} {xs : List Value} (h : w.ownsRow base e size (.slice (some ⟨g, 0, none⟩) n cap) n xs) {p : Addr} (hp : g ≠ p.block) (u : Value) : (w.setCell p u).ownsRow base e size (.slice (some ⟨g, 0, none⟩) n cap) n xs := by
  refine ⟨h.1, ?_⟩
  rcases h.2 with ⟨h', _⟩ | ⟨g', cap', cur, hv, hb, hh, hr⟩
  · simp at h'
  · have hv' := hv
    simp only [Value.slice.injEq, Option.some.injEq, Addr.mk.injEq, and_true, true_and] at hv'
    obtain ⟨rfl, rfl⟩ := hv'
    exact .inr ⟨g, cap, cur, hv, hb, (Below.heap_setCell w p u g hp).trans hh, hr⟩
/-- The ring in memory while it is gathered. -/
structure RgI (w : World) (m ga : Nat) (ar l : List (Int × Int)) (x y : Int) (wr : World) : Prop where
  ring : ∃ gr n c, Blk wr m 80 #[.slice (some ⟨gr, 0, none⟩) n c] ∧ wr.ownsRow (w.heap.size + 1) 38 2 (.slice (some ⟨gr, 0, none⟩) n c) n (spL l) ∧ l.length = n ∧ gr ≠ ga
  box : Blk wr w.heap.size 38 #[.int .i64 x, .int .i64 y]
  arr : SpAt wr ga ar
  ext : Below w.heap.size w wr
  hm : w.heap.size < m
  hga : ga ≠ m
section
variable {w wr w' : World} {m ga : Nat} {ar l : List (Int × Int)} {x y : Int}
theorem RgI.step (h : RgI w m ga ar l x y wr) (hb : Below wr.heap.size wr w') : RgI w m ga ar l x y w' := by
  obtain ⟨gr, n, c, h1, h2, h3, h4⟩ := h.ring
  exact ⟨⟨gr, n, c, h1.under hb h1.lt, own_ext hb h2, h3, h4⟩, h.box.under hb h.box.lt, h.arr.ext hb, Ext.then_ h.ext hb, h.hm, h.hga⟩
theorem RgI.put {gr n c g' c' : Nat} {l' : List (Int × Int)} {V : World} (h1 : Blk V m 80 #[.slice (some ⟨gr, 0, none⟩) n c]) (hV : RgI w m ga ar l x y V) (hg : V.grownBy w' (some gr)) (hgr : w.heap.size + 1 ≤ gr) (hga : gr ≠ ga) (hgm : gr ≠ m)
    (ho : w'.ownsRow (w.heap.size + 1) 38 2 (.slice (some ⟨g', 0, none⟩) (n + 1) c') (n + 1) (spL l')) (hl : l'.length = n + 1) (hne : g' ≠ ga) : RgI w m ga ar l' x y (w'.setCell ⟨m, 0, none⟩ (.slice (some ⟨g', 0, none⟩) (n + 1) c')) := by
  have b1 := h1.by_grown hg (fun e => by injection e with e; omega)
  have hmm := hV.hm
  have hgm' := own_blk_ne ho b1 (by decide)
  have hgm2 : g' ≠ m := fun e => hgm' (by simp [Value.ownBlock]; exact e)
  have hs := h1.lt
  refine ⟨⟨g', n + 1, c', by simpa using b1.store 0 (.slice (some ⟨g', 0, none⟩) (n + 1) c'), own_apartO ho (p := ⟨m, 0, none⟩) hgm2 _, hl, hne⟩, (hV.box.by_grown hg (fun e => by injection e with e; omega)).apart (p := ⟨m, 0, none⟩) (by show w.heap.size ≠ m; omega) _, ?_, ?_, hmm, hV.hga⟩
  · have a1 := hV.arr.grown2 hg (fun e => by injection e with e; omega)
    have hgam := hV.hga
    exact ⟨by simpa [World.setCell] using a1.1, fun i hi => ⟨(World.cell?_setCell_other _ _ _ _ (fun e => hgam (by injection e with e1; omega))).trans (a1.2 i hi).1, (World.cell?_setCell_other _ _ _ _ (fun e => hgam (by injection e with e1; omega))).trans (a1.2 i hi).2⟩⟩
  · exact ((hV.ext.trans (grownBelow hg (by omega) (by have := hV.ext.size; omega))).setCell (p := ⟨m, 0, none⟩) (by show w.heap.size ≤ m; omega) _)
end
theorem enters_get_dummy : True := trivial
def ringTo (L : List Bool) (W H : Nat) (b : Bool) (ar : List (Int × Int)) (k : Nat) : List (Int × Int) := (ar.take k).filter fun q => bit L W H q.1 q.2 == b
theorem ringTo_succ (L : List Bool) (W H : Nat) (b : Bool) (ar : List (Int × Int)) (k : Nat) (hk : k < ar.length) : ringTo L W H b ar (k + 1) = ringTo L W H b ar k ++ if bit L W H ar[k].1 ar[k].2 == b then [ar[k]] else [] := by
  unfold ringTo
  rw [List.take_succ_eq_append_getElem hk, List.filter_append]
  congr 1
  by_cases h : (bit L W H ar[k].1 ar[k].2 == b) = true
  · rw [if_pos h]; simp [h]
  · rw [if_neg h]; simp [h]
theorem ringTo_len (L : List Bool) (W H : Nat) (b : Bool) (ar : List (Int × Int)) (k : Nat) : (ringTo L W H b ar k).length ≤ k := by
  unfold ringTo
  exact Nat.le_trans (List.length_filter_le _ _) (by rw [List.length_take]; omega)
set_option maxRecDepth 100000 in
set_option maxHeartbeats 4000000 in
theorem oneSide_any (p g cap : Nat) (sp : List Value) (W H : Nat) (L : List Bool) (x y : Int) (b e : Bool) (w : World) (h : ImgG w p g cap sp W H L) (hW : W ≤ 1000) (hH : H ≤ 1000) (hx : -18 ≤ x ∧ x ≤ 18) (hy : -18 ≤ y ∧ y ≤ 18) :
    Calls Tryz.prog 57 #[.pointer (some ⟨p, 0, none⟩), .agg #[.int .i64 x, .int .i64 y], .bool b, .bool e] w fun e' w' => e' = .returned (.bool (sideD L W H b e (x, y))) ∧ Below w.heap.size w w' := by
  obtain ⟨K, hK, NB⟩ := nbT_C e
  have OB := Lib.hid (okB_ring L W H b (z := (x, y)) hx hy)
  have hlen : (nbC e (x, y)).length = K := NB.len _
  have hmf : ∀ (fn : Fn) (first cap : Array Value) (w : World), (Instr.makeFunc fn first cap).run Tryz.prog w = .ok (.func fn first cap) w := fun _ _ _ _ => rfl
  have IMG := Lib.hid (fun V (hb : Below w.heap.size w V) => h.ext hb)
  have GK := Lib.hid (fun V (hI : ImgG V p g cap sp W H L) x y => get_anyG p g cap sp W H L x y V hI hW hH)
  have AR := Lib.hid (fun V => around8_any x y V (by omega) (by omega))
  have NE := Lib.hid (fun V => NB.call x y V (by omega) (by omega))
  have NBH := Lib.hid NB
  have HLN : Hid ((nbC e (x, y)).length = K) := hlen
  have HXY := Lib.hid (And.intro hx hy)
  have hl8 : (ar8 x y).length = 8 := rfl
  have HL8 := Lib.hid hl8
  have R8 : Hid (ringTo L W H b (ar8 x y) 8 = ringL L W H b (x, y)) := rfl
  have R0 : Hid (ringTo L W H b (ar8 x y) 0 = []) := rfl
  have RS := Lib.hid (ringTo_succ L W H b (ar8 x y))
  have RL := Lib.hid (ringTo_len L W H b (ar8 x y))
  clear h NB hlen hl8
  obtain ⟨ar, har⟩ : ∃ ar, ar8 x y = ar := ⟨_, rfl⟩
  rw [har] at AR HL8 R8 R0 RS RL
  clear har
  obtain ⟨wB, hwB⟩ : ∃ wB, w.alloc (.cells #[.int .i64 x, .int .i64 y] 38) = wB := ⟨_, rfl⟩
  have T1 : Blk wB w.heap.size 38 #[.int .i64 x, .int .i64 y] := by rw [← hwB]; exact Blk.made w _ _
  have B1 : Below w.heap.size w wB := by rw [← hwB]; exact Ext.more (Ext.refl _) _
  have z2 : wB.heap.size = w.heap.size + 1 := by rw [← hwB]; simp
  have W2 : ∃ W2, (wB.alloc (.cells #[] 38)).alloc (.cells #[.slice (some ⟨w.heap.size + 1, 0, none⟩) 0 0] 80) = W2 := ⟨_, rfl⟩
  obtain ⟨W2, hW2⟩ := W2
  have z2' : wB.heap.size = w.heap.size + 1 := by rw [← hwB]; simp
  have O2 : W2.ownsRow (w.heap.size + 1) 38 2 (.slice (some ⟨w.heap.size + 1, 0, none⟩) 0 0) 0 (spL []) := by
    rw [← hW2]
    exact own_ext (Ext.more (Ext.refl _) _) (by have := World.ownsRow_lit (base := w.heap.size + 1) (e := 38) (size := 2) wB #[] 0 (by omega) (by decide) rfl; rw [z2'] at this; exact this)
  have M2 : Blk W2 (w.heap.size + 1 + 1) 80 #[.slice (some ⟨w.heap.size + 1, 0, none⟩) 0 0] := by
    have := Blk.made (wB.alloc (.cells #[] 38)) 80 #[.slice (some ⟨w.heap.size + 1, 0, none⟩) 0 0]
    rw [hW2] at this
    simpa [z2'] using this
  have E2 : Below wB.heap.size wB W2 := by rw [← hW2]; exact Ext.more (Ext.more (Ext.refl _) _) _
  have T2 := T1.under E2 T1.lt
  have B2 := Ext.then_ B1 E2
  have zW2 : W2.heap.size = w.heap.size + 3 := by rw [← hW2]; simp [z2']
  have HwB := Lib.hid hwB
  have HW2 := Lib.hid hW2
  have zz := Lib.hid z2'
  have t0 := T2.cell 0
  have t1 := T2.cell 1
  simp at t0 t1
  clear hwB hW2 z2 z2' T1 B1 E2
  go_enter Tryz.func57, Tryz.ntmps57
  go_upto_region 2 with fail
  try simp only [HwB.out]
  try simp only [HW2.out]
  go_wp2_with fail
  refine (AR.out W2).mono ?_
  rintro e' w3 ⟨ga, ca, rfl, hrow, hb3⟩
  have hga := (hrow.lt ga rfl).1
  have hga2 := (own_atO hrow).1
  have I3 : RgI w (w.heap.size + 1 + 1) ga ar [] x y w3 := ⟨⟨w.heap.size + 1, 0, 0, M2.under hb3 M2.lt, own_ext hb3 O2, rfl, by have := zz.out; omega⟩, T2.under hb3 T2.lt, own_spots hrow HL8.out, Ext.then_ B2 hb3, by omega, by omega⟩
  have HI3 := Lib.hid I3
  clear hrow hb3 M2 O2 T2 B2 t0 t1 AR I3
  go_wp2_with fail
  go_loopw [22] (fun i wr => ∃ k : Nat, k ≤ 8 ∧ i = .int .i64 k ∧ RgI w (w.heap.size + 1 + 1) ga ar (ringTo L W H b ar k) x y wr) (fun i _ => 8 - (intOf i).toNat)
  case atStart => exact ⟨0, Nat.zero_le _, rfl, by rw [R0.out]; exact HI3.out⟩
  case round =>
    obtain ⟨k, hk, rfl, RI⟩ := hrel
    clear HI3
    by_cases hlt : k < 8
    · have hkl : k < ar.length := by rw [HL8.out]; exact hlt
      obtain ⟨c0, c1⟩ := RI.arr.2 k hkl
      have hgaw := RI.arr.1
      have SK := Lib.hid (RS.out k hkl)
      have lk := RL.out k
      have i0 : (0 : Int) ≤ (k : Int) := by omega
      have i1 : (k : Int) < 8 := by omega
      generalize ar[k] = q at *
      obtain ⟨qx, qy⟩ := q
      simp only at c0 c1 SK
      obtain ⟨wq, hwq⟩ : ∃ wq, wr.alloc (.cells #[.int .i64 qx, .int .i64 qy] 38) = wq := ⟨_, rfl⟩
      have EQ : Below wr.heap.size wr wq := by rw [← hwq]; exact Ext.more (Ext.refl wr) _
      have TQ : Blk wq wr.heap.size 38 #[.int .i64 qx, .int .i64 qy] := by rw [← hwq]; exact Blk.made wr _ _
      have HRQ := Lib.hid (RI.step EQ)
      have G := Lib.hid (GK.out _ (IMG.out _ (RI.step EQ).ext) qx qy)
      have q0 : wq.cell? ⟨wr.heap.size, 0, none⟩ = some (.int .i64 qx) := (TQ.cell 0).trans rfl
      have q1 : wq.cell? ⟨wr.heap.size, 1, none⟩ = some (.int .i64 qy) := (TQ.cell 1).trans rfl
      have zq : wq.heap.size = wr.heap.size + 1 := by rw [← hwq]; simp
      have HWQ := Lib.hid hwq
      have zwr := RI.ext.size
      obtain ⟨bb, hbb⟩ : ∃ bb, (bit L W H qx qy == b) = bb := ⟨_, rfl⟩
      rw [hbb] at SK
      generalize bit L W H qx qy = bq at *
      clear EQ TQ hwq RI
      cases bb
      · have RE : Hid (ringTo L W H b ar (k + 1) = ringTo L W H b ar k) := by rw [Hid, SK.out]; simp
        clear SK
        go_upto_region 5 with fail
        try simp only [HWQ.out]
        go_wp2_with (go_at_call 32; refine G.out.mono ?_; rintro e' w' ⟨rfl, nd, rfl⟩)
        go_roundw
        case rel => exact ⟨k + 1, by omega, by go_num, by rw [RE.out]; exact HRQ.out.step (Ext.drawN (Ext.refl _) nd)⟩
        case measure => simp [intOf]; omega
      · have RE : Hid (ringTo L W H b ar (k + 1) = ringTo L W H b ar k ++ [(qx, qy)]) := by rw [Hid, SK.out]; simp
        clear SK
        go_upto_region 5 with fail
        try simp only [HWQ.out]
        go_upto_region 6 with (go_at_call 32; refine G.out.mono ?_; rintro e' w' ⟨rfl, nd, rfl⟩)
        obtain ⟨gr, n, c, h1, h2, h3, h4⟩ := (HRQ.out.step (Ext.drawN (Ext.refl wq) nd)).ring
        have HRN := Lib.hid (HRQ.out.step (Ext.drawN (Ext.refl wq) nd))
        have q0' : (wq.drewN nd).cell? ⟨wr.heap.size, 0, none⟩ = some (.int .i64 qx) := q0
        have q1' : (wq.drewN nd).cell? ⟨wr.heap.size, 1, none⟩ = some (.int .i64 qy) := q1
        have zN : wr.heap.size + 1 ≤ (wq.drewN nd).heap.size := Nat.le_of_eq zq.symm
        have hgr := own_atO h2
        have hgm := own_blk_ne h2 h1 (by decide)
        have hgm2 : gr ≠ w.heap.size + 1 + 1 := fun e => hgm (by simp [Value.ownBlock]; exact e)
        have ln : n ≤ 8 := by omega
        clear q0 q1 G HRQ zq
        generalize wq.drewN nd = wn at *
        have c9 := h1.cell 0
        simp at c9
        have h1l := h1.lt
        go_wp2_with (at_builtin; refine wpList_app spotT (by rfl) _ _ (by rfl) (w.heap.size + 1) (.slice (some ⟨gr, 0, none⟩) n c) n (spL (ringTo L W H b ar k)) (by rfl) (h2.alloc _) wn.heap.size #[.int .i64 qx, .int .i64 qy] (by rfl) (heap_alloc_new _ _) rfl (by simp [Value.oneCell']) (by omega) (by simp; omega) ?_; intro g3 cap3 w3' hown3 hgrow3 hat3 hlt3; have T3 := (h1.more (.cells #[.int .i64 qx, .int .i64 qy] 38)).by_grown hgrow3 (by simp [Value.ownBlock]; omega); have c3 : w3'.cell? ⟨w.heap.size + 1 + 1, 0, none⟩ = some (.slice (some ⟨gr, 0, none⟩) n c) := (T3.cell 0).trans rfl; have f3 := T3.free 0)
        have ho : w3'.ownsRow (w.heap.size + 1) 38 2 (.slice (some ⟨g3, 0, none⟩) (n + 1) cap3) (n + 1) (spL (ringTo L W H b ar k ++ [(qx, qy)])) := by
          rw [spL_append]; exact hown3
        have hne3 : g3 ≠ ga := by
          have := HRN.out.arr.1
          rcases hat3 with h | h
          · simp [Value.ownBlock] at h; omega
          · simp at h; omega
        have RF := Lib.hid (RgI.put (m := w.heap.size + 1 + 1) (h1.more (.cells #[.int .i64 qx, .int .i64 qy] 38)) (HRN.out.step (Ext.more (Ext.refl _) _)) hgrow3 hgr.1 h4 hgm2 ho (by rw [List.length_append, h3]; rfl) hne3)
        clear HRN hown3 hgrow3 hat3 T3 ho hne3 h2 h1
        go_roundw
        case rel => exact ⟨k + 1, by omega, by go_num, by rw [RE.out]; exact RF.out⟩
        case measure => simp [intOf]; omega
    · obtain rfl : k = 8 := by omega
      rw [R8.out] at RI
      obtain ⟨gr, n, c, hM, hO, hn, _⟩ := RI.ring
      have ln : n ≤ 8 := by have := RL.out 8; rw [R8.out] at this; omega
      have hcap := (ownD_cap hO).1
      have t0 := RI.box.cell 0
      have t1 := RI.box.cell 1
      simp at t0 t1
      have HM := Lib.hid (fun V (hb : Below wr.heap.size wr V) => hM.under hb hM.lt)
      have HS := Lib.hid (fun V (hb : Below wr.heap.size wr V) => (own_spots hO hn).ext hb)
      have HB := Lib.hid RI.ext
      have HN := Lib.hid hn
      have NEW := Lib.hid (NE.out wr)
      clear RI hM hO GK IMG RS RL R8 R0 NE HL8
      go_wp2_with fail
      refine NEW.out.mono ?_
      rintro e' w4 ⟨gn, cn, rfl, hnear, hb4⟩
      have SN := own_spots hnear HLN.out
      obtain ⟨w5, hw5⟩ : ∃ w5, w4.alloc (.cells #[.slice (some ⟨gn, 0, none⟩) K cn] 80) = w5 := ⟨_, rfl⟩
      have E5 : Below w4.heap.size w4 w5 := by rw [← hw5]; exact Ext.more (Ext.refl w4) _
      have X5 : Blk w5 w4.heap.size 80 #[.slice (some ⟨gn, 0, none⟩) K cn] := by rw [← hw5]; exact Blk.made w4 _ _
      have B5 := Ext.then_ hb4 E5
      have N5 := SN.ext E5
      have R5 := HS.out _ B5
      have M5 := HM.out _ B5
      have BB5 := Ext.then_ HB.out B5
      have c9 := M5.cell 0
      simp at c9
      have IX := Lib.hid (indexFuncD_any gr c n 73 #[.pointer (some ⟨w4.heap.size, 0, none⟩)] (ringL L W H b (x, y)) (fun q => decide (q ∈ nbC e (x, y))) w5 R5 HN.out (by omega) enters_ones1
        (fun q hq V hb => ones1_any w4.heap.size gn K cn (nbC e (x, y)) q.1 q.2 V (X5.under hb X5.lt) (N5.ext hb) HLN.out (by omega)))
      have HW5 := Lib.hid hw5
      have z5 := B5.size
      have HALL := Lib.hid (And.intro X5 (And.intro N5 (And.intro R5 (And.intro M5 BB5))))
      clear hnear hb4 SN NEW t0 t1 hw5 E5 X5 B5 N5 R5 M5 BB5 HM HS HB
      go_upto_region 9 with fail
      rw [HW5.out]
      go_wp2_with fail
      refine IX.out.mono ?_
      rintro e' w6 ⟨⟨r, rfl, hr⟩, hb6⟩
      obtain ⟨X5, N5, R5, M5, BB5⟩ := HALL.out
      clear HALL IX c9
      rcases hr with ⟨k0, rfl, hk0, hfk, _⟩ | ⟨rfl, hno⟩
      · have hkr : k0 < (ringL L W H b (x, y)).length := by rw [HN.out]; exact hk0
        simp only at hfk
        rw [← gq_at hkr] at hfk
        have hmem : (ringL L W H b (x, y))[k0] ∈ ringL L W H b (x, y) := List.getElem_mem hkr
        obtain ⟨q, hq⟩ : ∃ q, (ringL L W H b (x, y))[k0] = q := ⟨_, rfl⟩
        have R6 := R5.ext hb6
        obtain ⟨c0, c1⟩ := R6.2 k0 hkr
        rw [hq] at hfk hmem c0 c1
        obtain ⟨ax, ay⟩ := q
        simp only at c0 c1
        have hin : (ax, ay) ∈ nbC e (x, y) := of_decide_eq_true hfk
        have hring : ringB L W H b (x, y) (ax, ay) = true := by rw [← mem_ringL]; exact decide_eq_true hmem
        have M6 := M5.under hb6 M5.lt
        have N6 := N5.ext hb6
        have X6 := X5.under hb6 X5.lt
        have B6 := Ext.then_ BB5 hb6
        have c9 := M6.cell 0
        simp at c9
        have SPR := Lib.hid (spread_any NBH.out hK OB.out (by omega) ax ay hring gr (k0 * 2) (c - k0) 75 #[.pointer (some ⟨w.heap.size + 1 + 1, 0, none⟩)] w6 c0 c1 R6.1 enters_ones2
          (fun u v _ _ V hb => by
            have := ones2_any (w.heap.size + 1 + 1) gr n c (ringL L W H b (x, y)) u v V (M6.under hb M6.lt) (R6.ext hb) HN.out (by omega)
            rw [mem_ringL] at this
            exact this))
        have HOF := Lib.hid (side_of hin hring OB.out)
        have HALL := Lib.hid (And.intro X6 (And.intro N6 (And.intro R6 (And.intro M6 B6))))
        have i0 : (0 : Int) ≤ (k0 : Int) := by omega
        have i1 : ¬ ((k0 : Int) < 0) := by omega
        have i2 : (k0 : Int) + 1 ≤ (c : Int) := by omega
        have i3 : k0 ≤ c := by omega
        have i4 : ¬ (c = k0) := by omega
        have i5 : k0 + 1 ≤ c := by omega
        clear X5 N5 R5 M5 BB5 hb6 c0 c1 R6 M6 N6 X6 B6 hq hmem hfk hkr
        go_wp2_with fail
        refine SPR.out.mono ?_
        rintro e' w7 ⟨rfl, hMap, hb7⟩
        obtain ⟨X6, N6, R6, M6, B6⟩ := HALL.out
        obtain ⟨w8, hw8⟩ : ∃ w8, w7.alloc (.cells #[.map (some w6.heap.size)] 82) = w8 := ⟨_, rfl⟩
        have E8 : Below w7.heap.size w7 w8 := by rw [← hw8]; exact Ext.more (Ext.refl _) _
        have X14 : Blk w8 w7.heap.size 82 #[.map (some w6.heap.size)] := by rw [← hw8]; exact Blk.made w7 _ _
        have hb8 := Ext.then_ hb7 E8
        have X8 := X6.under hb8 X6.lt
        have N8 := N6.ext hb8
        have R8 := R6.ext hb8
        have M8 := M6.under hb8 M6.lt
        have MP8 := hMap.ext E8
        have B8 := Ext.then_ B6 hb8
        have c9' := M8.cell 0
        simp at c9'
        have CF := Lib.hid (containsFuncD_any gr c n 77 #[.pointer (some ⟨w4.heap.size, 0, none⟩), .pointer (some ⟨w7.heap.size, 0, none⟩)] (ringL L W H b (x, y)) (fun q => decide (q ∈ nbC e (x, y)) && !(rchF (nbC e) (ringB L W H b (x, y)) 9 (ax, ay) q).isSome) w8 R8 HN.out (by omega) enters_ones3
          (fun q hq V hb => ones3_any w4.heap.size gn K cn w7.heap.size w6.heap.size (nbC e (x, y)) (rchF (nbC e) (ringB L W H b (x, y)) 9 (ax, ay)) q.1 q.2 V (X8.under hb X8.lt) (N8.ext hb) HLN.out (by omega) (X14.under hb X14.lt) (MP8.ext hb)
            (by have h1 := (ringB_iff.1 (by rw [← mem_ringL]; exact decide_eq_true hq)).1
                have h2 := HXY.out
                unfold A8 A4 at h1
                simp only at h1
                omega)
            (by have h1 := (ringB_iff.1 (by rw [← mem_ringL]; exact decide_eq_true hq)).1
                have h2 := HXY.out
                unfold A8 A4 at h1
                simp only at h1
                omega)))
        obtain ⟨an, han⟩ : ∃ an, ((ringL L W H b (x, y)).any fun q => decide (q ∈ nbC e (x, y)) && !(rchF (nbC e) (ringB L W H b (x, y)) 9 (ax, ay) q).isSome) = an := ⟨_, rfl⟩
        rw [han] at CF HOF
        clear han
        have HB8 := Lib.hid B8
        have HW8 := Lib.hid hw8
        clear X6 N6 R6 M6 B6 hMap hb7 hw8 E8 X14 hb8 X8 N8 R8 M8 MP8 B8 SPR HALL c9
        go_upto_region 13 with fail
        rw [HW8.out]
        go_wp2_with fail
        refine CF.out.mono ?_
        rintro e' w9 ⟨rfl, hb9⟩
        have BF := Lib.hid (Ext.then_ HB8.out hb9)
        clear hb9 CF
        go_wp2_with fail
        go_ret
        exact ⟨by rw [← HOF.out]; rfl, BF.out⟩
      · have SD : Hid (sideD L W H b e (x, y) = false) := side_no fun q hq h => by
          obtain ⟨i, hi, rfl⟩ := List.mem_iff_getElem.1 hq
          have := hno i (by rw [← HN.out]; exact hi)
          simp only at this
          rw [← gq_at hi, decide_eq_false_iff_not] at this
          exact this h
        have BF := Lib.hid (Ext.then_ BB5 hb6)
        clear X5 N5 R5 M5 BB5 hb6 hno
        go_wp2_with fail
        go_ret
        exact ⟨by rw [SD.out]; rfl, BF.out⟩
end Go.Proofs.YtdhajndmebnknaaGreat
