/- How many pixels of a picture are black: the program's. -/
import Derived.Test.YtdbelajgndclfaaResP
import Derived.Test.YtdbelajgndclfaaMat
import Derived.Laws.EntriesVeiled
namespace Go.Proofs.Ytdbelajgndclfaa
open Go.RowKit

/-- How many of the first k pixels are black. -/
def cnt (L : List Bool) (k : Nat) : Nat := (L.take k).count true
theorem cnt_succ {L : List Bool} {k : Nat} (h : k < L.length) : cnt L (k + 1) = cnt L k + if L[k] = true then 1 else 0 := by
  rw [cnt, List.take_succ_eq_append_getElem h, List.count_append, cnt]
  cases L[k] <;> simp
theorem cnt_le (L : List Bool) (k : Nat) : cnt L k ≤ k := Nat.le_trans List.count_le_length (by simp; omega)
/-- What is held while the black pixels are laid in a list. -/
structure SpInv (w : World) (p g W H tm to' : Nat) (L : List Bool) (k : Nat) (wr : World) : Prop where
  img : Img wr p g W H L
  tm : Blk wr tm 78 #[.pointer (some ⟨p, 0, none⟩)]
  out : ∃ gb cb xs, Blk wr to' 125 #[.slice (some ⟨gb, 0, none⟩) (cnt L k) cb] ∧ wr.ownsRow w.heap.size 114 2 (.slice (some ⟨gb, 0, none⟩) (cnt L k) cb) (cnt L k) xs
  ext : Below w.heap.size w wr
theorem enters_spots1 : Enters 152 := enters_of Try.func152 (by kernel_rfl) (by kernel_rfl)
set_option maxRecDepth 100000 in
set_option maxHeartbeats 1000000 in
theorem spots1_any (w : World) (p g W H tm to' : Nat) (L : List Bool) (x y : Nat) (wr : World) (hI : SpInv w p g W H tm to' L (y * W + x) wr) (hto : w.heap.size ≤ to') (hp : p < w.heap.size) (hg : g < w.heap.size) (hW : W ≤ 1000) (hH : H ≤ 1000) (hx : x < W) (hy : y < H) :
    Calls Try.prog 152 #[.int .i64 x, .int .i64 y, .pointer (some ⟨tm, 0, none⟩), .pointer (some ⟨to', 0, none⟩)] wr fun e w' => e = .returned (.tuple #[]) ∧ SpInv w p g W H tm to' L (y * W + x + 1) w' := by
  obtain ⟨gb, cb, xs, hT, ho⟩ := hI.out
  have c0 := hI.tm.cell 0
  simp at c0
  have GK := Lib.hid (get_any p g W H L x y wr hI.img hW hH)
  have hl : y * W + x < L.length := by
    rw [hI.img.len]
    have := (mul_bd hy hW hH).2
    omega
  have bi : bit L W H x y = L[y * W + x]'hl := by rw [bit_in hx hy, List.getD_eq_getElem?_getD, List.getElem?_eq_getElem hl]; rfl
  rw [bi] at GK
  have CS := Lib.hid (cnt_succ hl)
  have kb : cnt L (y * W + x) ≤ 1000000 := by
    have := cnt_le L (y * W + x)
    have := (mul_bd hy hW hH).2
    have : W * H ≤ 1000 * 1000 := Nat.mul_le_mul hW hH
    omega
  have HI := Lib.hid hI
  have hne : gb ≠ to' := by
    have := own_blk_ne ho hT (by decide)
    intro e
    exact this (by rw [e]; rfl)
  have hgb := (ho.lt gb rfl).1
  clear bi
  generalize L[y * W + x]'hl = b at *
  cases b
  · have CE : Hid (cnt L (y * W + x + 1) = cnt L (y * W + x)) := by rw [Hid, CS.out]; simp
    clear hI
    go_enter Try.func152, Try.ntmps152
    go_wp2_with fail
    refine GK.out.mono ?_
    rintro e w2 ⟨rfl, nd, rfl⟩
    go_wp2_with fail
    go_end0
    exact ⟨rfl, HI.out.img.drewN nd, HI.out.tm, ⟨gb, cb, xs, by rw [CE.out]; exact hT, by rw [CE.out]; exact ho⟩, Ext.drawN HI.out.ext nd⟩
  · have CE : Hid (cnt L (y * W + x + 1) = cnt L (y * W + x) + 1) := by rw [Hid, CS.out]; simp
    clear hI
    go_enter Try.func152, Try.ntmps152
    go_wp2_with fail
    refine GK.out.mono ?_
    rintro e w2 ⟨rfl, nd, rfl⟩
    have I2 : Img (wr.drewN nd) p g W H L := HI.out.img.drewN nd
    have M2 : Blk (wr.drewN nd) tm 78 #[.pointer (some ⟨p, 0, none⟩)] := HI.out.tm
    have T2 : Blk (wr.drewN nd) to' 125 #[.slice (some ⟨gb, 0, none⟩) (cnt L (y * W + x)) cb] := hT
    have O2 : (wr.drewN nd).ownsRow w.heap.size 114 2 (.slice (some ⟨gb, 0, none⟩) (cnt L (y * W + x)) cb) (cnt L (y * W + x)) xs := ho
    have E2 : Below w.heap.size w (wr.drewN nd) := Ext.drawN HI.out.ext nd
    clear hT ho c0
    generalize cnt L (y * W + x) = m at *
    generalize wr.drewN nd = w2 at *
    have c1 := T2.cell 0
    simp at c1
    have hsz := E2.size
    have tl := T2.lt
    go_wp2_with (at_builtin; refine wpList_app spotT (by rfl) _ _ (by rfl) w.heap.size (.slice (some ⟨gb, 0, none⟩) m cb) m xs (by rfl) (O2.alloc _) w2.heap.size #[.int .i64 x, .int .i64 y] (by rfl) (heap_alloc_new _ _) rfl (by simp [Value.oneCell']) (by omega) (by simp; omega) ?_; intro g3 cap3 w3 hown3 hgrow3 hat3 hlt3; have T3 : Blk w3 to' 125 #[.slice (some ⟨gb, 0, none⟩) m cb] := (T2.more _).by_grown hgrow3 (by simp [Value.ownBlock]; omega); have c3 : w3.cell? ⟨to', 0, none⟩ = some (.slice (some ⟨gb, 0, none⟩) m cb) := (by have := T3.cell 0; simpa using this); have f3 := T3.free 0)
    have far : ∀ b, b < w.heap.size → some b ≠ (Value.slice (some ⟨gb, 0, none⟩) m cb).ownBlock := fun b hb => by simp [Value.ownBlock]; omega
    have E3 : Below w.heap.size w w3 := (E2.alloc hsz _).grown hgrow3 (by simp; omega) (fun z hz => by simp [Value.ownBlock] at hz; omega)
    have I3 : Img w3 p g W H L := ⟨(I2.hdr.more _).by_grown hgrow3 (far p hp), (I2.bits.more _).by_grown hgrow3 (far g hg), I2.len⟩
    have M3 : Blk w3 tm 78 #[.pointer (some ⟨p, 0, none⟩)] := (M2.more _).by_grown hgrow3 (fun e => by
      have := own_blk_ne O2 M2 (by decide)
      exact this e.symm)
    have hne3 : g3 ≠ to' := by
      rcases hat3 with h | h
      · simp [Value.ownBlock] at h; omega
      · simp at h; omega
    have HX := Lib.hid (And.intro I3 (And.intro M3 (And.intro T3 (And.intro hown3 E3))))
    clear I3 M3 T3 hown3 E3 hgrow3 hat3 I2 M2 T2 O2 E2 far
    go_end0
    obtain ⟨I3, M3, T3, hown3, E3⟩ := HX.out
    refine ⟨rfl, ⟨I3.hdr.apart (p := ⟨to', 0, none⟩) (by show p ≠ to'; omega) _, I3.bits.apart (p := ⟨to', 0, none⟩) (by show g ≠ to'; omega) _, I3.len⟩, M3.apart (p := ⟨to', 0, none⟩) (fun e => M3.ne T3 (by decide) e) _, ⟨g3, cap3, xs ++ [.int .i64 x, .int .i64 y], ?_, ?_⟩, E3.setCell (p := ⟨to', 0, none⟩) hto _⟩
    · have := T3.store 0 (.slice (some ⟨g3, 0, none⟩) (m + 1) cap3)
      rw [CE.out]; simpa using this
    · rw [CE.out]
      have hg3 := (hown3.lt g3 rfl).1
      refine (Chg.store (Chg.refl (fun b => b = to') w3) (p := ⟨to', 0, none⟩) rfl _).own hown3 (fun b hb => ?_)
      simp [Value.ownBlock] at hb
      omega
set_option maxRecDepth 100000 in
set_option maxHeartbeats 1000000 in
theorem spots_anyC (p g W H : Nat) (L : List Bool) (w : World) (h : Img w p g W H L) (hW : W ≤ 1000) (hH : H ≤ 1000) :
    Calls Try.prog 140 #[.pointer (some ⟨p, 0, none⟩)] w fun e w' => ∃ gb cb, e = .returned (.slice (some ⟨gb, 0, none⟩) (L.count true) cb) ∧ Below w.heap.size w w' := by
  have hmf : ∀ (fn : Fn) (first cap : Array Value) (w : World), (Instr.makeFunc fn first cap).run Try.prog w = .ok (.func fn first cap) w := fun _ _ _ _ => rfl
  have hp := h.hdr.lt
  have hg := h.bits.lt
  have C0 : Hid (cnt L 0 = 0) := by simp [Hid, cnt]
  have CN : Hid (cnt L (W * H) = L.count true) := by rw [Hid, cnt, ← h.len, List.take_length]
  obtain ⟨w2, hw2⟩ : ∃ w2, ((w.alloc (.cells #[.pointer (some ⟨p, 0, none⟩)] 78)).alloc (.cells #[] 114)).alloc (.cells #[.slice (some ⟨w.heap.size + 1, 0, none⟩) 0 0] 125) = w2 := ⟨_, rfl⟩
  have I0 : SpInv w p g W H w.heap.size (w.heap.size + 1 + 1) L 0 w2 := by
    have hrow0 := World.ownsRow_lit (e := 114) (size := 2) (w.alloc (.cells #[.pointer (some ⟨p, 0, none⟩)] 78)) #[] 0 (Nat.le_refl _) (by decide) rfl
    have T := Blk.made ((w.alloc (.cells #[.pointer (some ⟨p, 0, none⟩)] 78)).alloc (.cells #[] 114)) 125 #[.slice (some ⟨w.heap.size + 1, 0, none⟩) 0 0]
    have E : Below w.heap.size w w2 := by rw [← hw2]; exact Ext.more (Ext.more (Ext.more (Ext.refl _) _) _) _
    refine ⟨h.ext E, ?_, ⟨w.heap.size + 1, 0, [], ?_, ?_⟩, E⟩
    · rw [← hw2]; exact ((Blk.made w _ _).more _).more _
    · rw [C0.out, ← hw2]; simpa using T
    · rw [C0.out, ← hw2]
      have := own_base (base' := w.heap.size) hrow0 (by simp)
      have := this.alloc (.cells #[.slice (some ⟨w.heap.size + 1, 0, none⟩) 0 0] 125)
      simpa using this
  have E := Lib.hid (each_any p W H (.slice (some ⟨g, 0, none⟩) (W * H) (W * H)) 152 #[.pointer (some ⟨w.heap.size, 0, none⟩), .pointer (some ⟨w.heap.size + 1 + 1, 0, none⟩)]
    (SpInv w p g W H w.heap.size (w.heap.size + 1 + 1) L) w2 hW hH (fun _ _ h => h.img.hdr) (fun x y hx hy wr h => spots1_any w p g W H w.heap.size (w.heap.size + 1 + 1) L x y wr h (by omega) hp hg hW hH hx hy) I0 enters_spots1)
  have c0 := I0.tm.cell 0
  simp at c0
  clear h I0
  go_enter Try.func140, Try.ntmps140
  go_wp2_with fail
  try simp only [hw2]
  refine E.out.mono ?_
  rintro e w3 ⟨rfl, hI⟩
  obtain ⟨gb, cb, xs, hT, _⟩ := hI.out
  rw [CN.out] at hT
  have c1 := hT.cell 0
  simp at c1
  have HB := Lib.hid hI.ext
  clear hI hT
  go_wp2_with fail
  go_ret
  exact ⟨_, _, rfl, HB.out⟩
set_option maxRecDepth 100000 in
set_option maxHeartbeats 1000000 in
theorem count_any (p g W H : Nat) (L : List Bool) (w : World) (h : Img w p g W H L) (hW : W ≤ 1000) (hH : H ≤ 1000) :
    Calls Try.prog 118 #[.pointer (some ⟨p, 0, none⟩)] w fun e w' => e = .returned (.int .i64 (L.count true : Nat)) ∧ Below w.heap.size w w' := by
  have SH := Lib.hid (spots_anyC p g W H L w h hW hH)
  clear h
  go_enter Try.func118, Try.ntmps118
  go_wp2_with fail
  refine SH.out.mono ?_
  rintro e w2 ⟨gb, cb, rfl, hb⟩
  go_wp2_with fail
  go_ret
  exact ⟨rfl, hb⟩
set_option maxHeartbeats 1000000 in
theorem countBlack_any (A : Option Addr) (c : Nat) (rows : List ByteArray) (w : World) (h : Rd w A (strs rows)) (hn : rows.length ≤ 1000000000) (hp : picOk rows = true) :
    Calls Try.prog 53 #[.agg #[.slice A rows.length c]] w fun e w' => e = .returned (.tuple #[.int .i64 ((picBits rows).count true : Nat), .bool true]) ∧ Below w.heap.size w w' := by
  have B1 : Below w.heap.size w (w.alloc (.cells #[.slice A rows.length c] 26)) := Ext.more (Ext.refl _) _
  have IM := Lib.hid (imageOf_any A c rows _ (h.ext B1) hn)
  have IH := Lib.hid (IM.out.mono (fun e w' hI => (show (∃ p g, e = .returned (.tuple #[.pointer (some ⟨p, 0, none⟩), .bool true]) ∧ Img w' p g (picW rows) rows.length (picBits rows)) ∧ Below _ _ w' from ⟨(hI.yes hp).elim fun p h => h.elim fun g h => ⟨p, g, h.1, h.2.1⟩, hI.ext⟩)))
  obtain ⟨s1, s2, s3, s4⟩ := picOk_sizes hp
  have CH := Lib.hid (fun p g V (hV : Img V p g (picW rows) rows.length (picBits rows)) => count_any p g (picW rows) rows.length (picBits rows) V hV (by omega) (by omega))
  clear h hp hn IM
  generalize (picBits rows).count true = ct at *
  generalize rows.length = H at *
  go_enter Try.func53, Try.ntmps53
  go_wp2_with fail
  refine IH.out.mono ?_
  rintro e w1 ⟨⟨p, g, rfl, hm⟩, hb⟩
  go_wp2_with fail
  refine (CH.out _ _ _ hm).mono ?_
  rintro e w2 ⟨rfl, hb2⟩
  go_wp2_with fail
  go_ret2
  exact ⟨rfl, Ext.then_ (Ext.then_ B1 hb) hb2⟩
end Go.Proofs.Ytdbelajgndclfaa
