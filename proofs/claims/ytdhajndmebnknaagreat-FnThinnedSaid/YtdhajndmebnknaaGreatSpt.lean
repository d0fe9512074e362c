/- The black pixels of an image, in reading order: the program's. -/
import Derived.Test.YtdhajndmebnknaaGreatPicL
import Derived.Test.YtdhajndmebnknaaGreatWaysB
import Derived.Laws.EntriesVeiled
namespace Go.Proofs.YtdhajndmebnknaaGreat
open Go.RowKit

/-- The black ones of the first k pixels. -/
def spB (L : List Bool) (W k : Nat) : List (Int × Int) := ((List.range k).filter fun i => L.getD i false).map fun i => (((i % W : Nat) : Int), ((i / W : Nat) : Int))
theorem spB_succ (L : List Bool) (W k : Nat) : spB L W (k + 1) = spB L W k ++ if L.getD k false then [(((k % W : Nat) : Int), ((k / W : Nat) : Int))] else [] := by
  rw [spB, List.range_succ, List.filter_append, List.map_append]
  congr 1
  rw [List.filter_cons, List.filter_nil]
  cases L.getD k false <;> rfl
theorem spB_len (L : List Bool) (W k : Nat) : (spB L W k).length ≤ k := by
  rw [spB, List.length_map]
  exact Nat.le_trans (List.length_filter_le _ _) (by simp)
theorem spB_mem {L : List Bool} {W H : Nat} {s : Int × Int} (hW : 0 < W) : s ∈ spB L W (W * H) ↔ ∃ x y : Nat, s = ((x : Int), (y : Int)) ∧ x < W ∧ y < H ∧ L.getD (y * W + x) false = true := by
  rw [spB, List.mem_map]
  constructor
  · rintro ⟨i, hi, rfl⟩
    rw [List.mem_filter, List.mem_range] at hi
    obtain ⟨e, hm⟩ := pl_eq i hW
    exact ⟨i % W, i / W, rfl, hm, pl_row hi.1, by rw [← e]; exact hi.2⟩
  · rintro ⟨x, y, rfl, hx, hy, hb⟩
    refine ⟨y * W + x, ?_, ?_⟩
    · rw [List.mem_filter, List.mem_range]; exact ⟨pl_lt hx hy, hb⟩
    · rw [plM hx, plD hx]
/-- What is held while the black pixels are laid in a list. -/
structure SptInv (w : World) (p g W H tm to' : Nat) (L : List Bool) (k : Nat) (wr : World) : Prop where
  img : Img wr p g W H L
  tm : Blk wr tm 47 #[.pointer (some ⟨p, 0, none⟩)]
  out : ∃ gb cb, Blk wr to' 80 #[.slice (some ⟨gb, 0, none⟩) (spB L W k).length cb] ∧ wr.ownsRow w.heap.size 38 2 (.slice (some ⟨gb, 0, none⟩) (spB L W k).length cb) (spB L W k).length (spL (spB L W k))
  ext : Below w.heap.size w wr
theorem enters_spots1M : Enters 63 := enters_of Tryz.func63 (by kernel_rfl) (by kernel_rfl)
set_option maxRecDepth 100000 in
set_option maxHeartbeats 1000000 in
theorem spots1M_any (w : World) (p g W H tm to' : Nat) (L : List Bool) (x y : Nat) (wr : World) (hI : SptInv w p g W H tm to' L (y * W + x) wr) (hto : w.heap.size ≤ to') (hp : p < w.heap.size) (hg : g < w.heap.size) (hW : W ≤ 1000) (hH : H ≤ 1000) (hx : x < W) (hy : y < H) :
    Calls Tryz.prog 63 #[.int .i64 x, .int .i64 y, .pointer (some ⟨tm, 0, none⟩), .pointer (some ⟨to', 0, none⟩)] wr fun e w' => e = .returned (.tuple #[]) ∧ SptInv w p g W H tm to' L (y * W + x + 1) w' := by
  obtain ⟨gb, cb, hT, ho⟩ := hI.out
  have c0 := hI.tm.cell 0
  simp at c0
  have GK := Lib.hid (get_any p g W H L x y wr hI.img hW hH)
  have hl : y * W + x < L.length := by
    rw [hI.img.len]
    have := (mul_bd hy hW hH).2
    omega
  have bi : bit L W H x y = L[y * W + x]'hl := by rw [bit_in hx hy, List.getD_eq_getElem?_getD, List.getElem?_eq_getElem hl]; rfl
  rw [bi] at GK
  have CS := Lib.hid (spB_succ L W (y * W + x))
  rw [plM hx, plD hx, List.getD_eq_getElem?_getD, List.getElem?_eq_getElem hl, Option.getD_some] at CS
  have kb : (spB L W (y * W + x)).length ≤ 1000000 := by
    have := spB_len L W (y * W + x)
    have := (mul_bd hy hW hH).2
    have : W * H ≤ 1000 * 1000 := Nat.mul_le_mul hW hH
    omega
  have HI := Lib.hid hI
  have hne : gb ≠ to' := by
    have := own_blk_ne ho hT (by decide)
    intro e
    exact this (by rw [e]; rfl)
  have hgb := (ho.lt gb rfl).1
  clear bi
  generalize L[y * W + x]'hl = b at *
  cases b
  · have CE : Hid (spB L W (y * W + x + 1) = spB L W (y * W + x)) := by rw [Hid, CS.out]; simp
    clear hI
    go_enter Tryz.func63, Tryz.ntmps63
    go_wp2_with fail
    refine GK.out.mono ?_
    rintro e w2 ⟨rfl, nd, rfl⟩
    go_wp2_with fail
    go_end0
    exact ⟨rfl, HI.out.img.drewN nd, HI.out.tm, ⟨gb, cb, by rw [CE.out]; exact hT, by rw [CE.out]; exact ho⟩, Ext.drawN HI.out.ext nd⟩
  · have CE : Hid (spB L W (y * W + x + 1) = spB L W (y * W + x) ++ [((x : Int), (y : Int))]) := by rw [Hid, CS.out]; simp
    clear hI
    go_enter Tryz.func63, Tryz.ntmps63
    go_wp2_with fail
    refine GK.out.mono ?_
    rintro e w2 ⟨rfl, nd, rfl⟩
    have I2 : Img (wr.drewN nd) p g W H L := HI.out.img.drewN nd
    have M2 : Blk (wr.drewN nd) tm 47 #[.pointer (some ⟨p, 0, none⟩)] := HI.out.tm
    have T2 : Blk (wr.drewN nd) to' 80 #[.slice (some ⟨gb, 0, none⟩) (spB L W (y * W + x)).length cb] := hT
    have O2 : (wr.drewN nd).ownsRow w.heap.size 38 2 (.slice (some ⟨gb, 0, none⟩) (spB L W (y * W + x)).length cb) (spB L W (y * W + x)).length (spL (spB L W (y * W + x))) := ho
    have E2 : Below w.heap.size w (wr.drewN nd) := Ext.drawN HI.out.ext nd
    clear hT ho c0
    generalize spB L W (y * W + x) = xs at *
    obtain ⟨m, hm⟩ : ∃ m, xs.length = m := ⟨_, rfl⟩
    have HMM := Lib.hid hm
    rw [hm] at kb T2 O2
    clear hm
    generalize wr.drewN nd = w2 at *
    have c1 := T2.cell 0
    simp at c1
    have hsz := E2.size
    have tl := T2.lt
    go_wp2_with (at_builtin; refine wpList_app spotT (by rfl) _ _ (by rfl) w.heap.size (.slice (some ⟨gb, 0, none⟩) m cb) m (spL xs) (by rfl) (O2.alloc _) w2.heap.size #[.int .i64 x, .int .i64 y] (by rfl) (heap_alloc_new _ _) rfl (by simp [Value.oneCell']) (by omega) (by simp; omega) ?_; intro g3 cap3 w3 hown3 hgrow3 hat3 hlt3; have T3 : Blk w3 to' 80 #[.slice (some ⟨gb, 0, none⟩) m cb] := (T2.more _).by_grown hgrow3 (by simp [Value.ownBlock]; omega); have c3 : w3.cell? ⟨to', 0, none⟩ = some (.slice (some ⟨gb, 0, none⟩) m cb) := (by have := T3.cell 0; simpa using this); have f3 := T3.free 0)
    have far : ∀ b, b < w.heap.size → some b ≠ (Value.slice (some ⟨gb, 0, none⟩) m cb).ownBlock := fun b hb => by simp [Value.ownBlock]; omega
    have E3 : Below w.heap.size w w3 := (E2.alloc hsz _).grown hgrow3 (by simp; omega) (fun z hz => by simp [Value.ownBlock] at hz; omega)
    have I3 : Img w3 p g W H L := ⟨(I2.hdr.more _).by_grown hgrow3 (far p hp), (I2.bits.more _).by_grown hgrow3 (far g hg), I2.len⟩
    have M3 : Blk w3 tm 47 #[.pointer (some ⟨p, 0, none⟩)] := (M2.more _).by_grown hgrow3 (fun e => by
      have := own_blk_ne O2 M2 (by decide)
      exact this e.symm)
    have hne3 : g3 ≠ to' := by
      rcases hat3 with h | h
      · simp [Value.ownBlock] at h; omega
      · simp at h; omega
    have HX := Lib.hid (And.intro I3 (And.intro M3 (And.intro T3 (And.intro hown3 E3))))
    clear I3 M3 T3 hown3 E3 hgrow3 hat3 I2 M2 T2 O2 E2 far
    go_end0
    obtain ⟨I3, M3, T3, hown3, E3⟩ := HX.out
    refine ⟨rfl, ⟨I3.hdr.apart (p := ⟨to', 0, none⟩) (by show p ≠ to'; omega) _, I3.bits.apart (p := ⟨to', 0, none⟩) (by show g ≠ to'; omega) _, I3.len⟩, M3.apart (p := ⟨to', 0, none⟩) (fun e => M3.ne T3 (by decide) e) _, ⟨g3, cap3, ?_, ?_⟩, E3.setCell (p := ⟨to', 0, none⟩) hto _⟩
    · have := T3.store 0 (.slice (some ⟨g3, 0, none⟩) (m + 1) cap3)
      rw [CE.out, List.length_append, HMM.out]; simpa using this
    · rw [CE.out, List.length_append, HMM.out, spL_append]
      have hg3 := (hown3.lt g3 rfl).1
      refine (Chg.store (Chg.refl (fun b => b = to') w3) (p := ⟨to', 0, none⟩) rfl _).own hown3 (fun b hb => ?_)
      simp [Value.ownBlock] at hb
      omega
set_option maxRecDepth 100000 in
set_option maxHeartbeats 1000000 in
theorem spotsM_any (p g W H : Nat) (L : List Bool) (w : World) (h : Img w p g W H L) (hW : W ≤ 1000) (hH : H ≤ 1000) :
    Calls Tryz.prog 46 #[.pointer (some ⟨p, 0, none⟩)] w fun e w' => ∃ gb cb, e = .returned (.slice (some ⟨gb, 0, none⟩) (spB L W (W * H)).length cb) ∧ w'.ownsRow w.heap.size 38 2 (.slice (some ⟨gb, 0, none⟩) (spB L W (W * H)).length cb) (spB L W (W * H)).length (spL (spB L W (W * H))) ∧ Below w.heap.size w w' := by
  have hmf : ∀ (fn : Fn) (first cap : Array Value) (w : World), (Instr.makeFunc fn first cap).run Tryz.prog w = .ok (.func fn first cap) w := fun _ _ _ _ => rfl
  have hp := h.hdr.lt
  have hg := h.bits.lt
  have C0 : Hid (spB L W 0 = []) := rfl
  obtain ⟨w2, hw2⟩ : ∃ w2, ((w.alloc (.cells #[.pointer (some ⟨p, 0, none⟩)] 47)).alloc (.cells #[] 38)).alloc (.cells #[.slice (some ⟨w.heap.size + 1, 0, none⟩) 0 0] 80) = w2 := ⟨_, rfl⟩
  have I0 : SptInv w p g W H w.heap.size (w.heap.size + 1 + 1) L 0 w2 := by
    have hrow0 := World.ownsRow_lit (e := 38) (size := 2) (w.alloc (.cells #[.pointer (some ⟨p, 0, none⟩)] 47)) #[] 0 (Nat.le_refl _) (by decide) rfl
    have T := Blk.made ((w.alloc (.cells #[.pointer (some ⟨p, 0, none⟩)] 47)).alloc (.cells #[] 38)) 80 #[.slice (some ⟨w.heap.size + 1, 0, none⟩) 0 0]
    have E : Below w.heap.size w w2 := by rw [← hw2]; exact Ext.more (Ext.more (Ext.more (Ext.refl _) _) _) _
    refine ⟨h.ext E, ?_, ⟨w.heap.size + 1, 0, ?_, ?_⟩, E⟩
    · rw [← hw2]; exact ((Blk.made w _ _).more _).more _
    · rw [C0.out, ← hw2]; simpa using T
    · rw [C0.out, ← hw2]
      have := own_base (base' := w.heap.size) hrow0 (by simp)
      have := this.alloc (.cells #[.slice (some ⟨w.heap.size + 1, 0, none⟩) 0 0] 80)
      simpa [spL] using this
  have E := Lib.hid (each_any p W H (.slice (some ⟨g, 0, none⟩) (W * H) (W * H)) 63 #[.pointer (some ⟨w.heap.size, 0, none⟩), .pointer (some ⟨w.heap.size + 1 + 1, 0, none⟩)]
    (SptInv w p g W H w.heap.size (w.heap.size + 1 + 1) L) w2 hW hH (fun _ _ h => h.img.hdr) (fun x y hx hy wr h => spots1M_any w p g W H w.heap.size (w.heap.size + 1 + 1) L x y wr h (by omega) hp hg hW hH hx hy) I0 enters_spots1M)
  have c0 := I0.tm.cell 0
  simp at c0
  clear h I0
  go_enter Tryz.func46, Tryz.ntmps46
  go_wp2_with fail
  try simp only [hw2]
  refine E.out.mono ?_
  rintro e w3 ⟨rfl, hI⟩
  obtain ⟨gb, cb, hT, ho⟩ := hI.out
  have HO := Lib.hid ho
  have c1 := hT.cell 0
  simp at c1
  have HB := Lib.hid hI.ext
  clear hI hT ho C0
  go_wp2_with fail
  go_ret
  exact ⟨_, _, rfl, HO.out, HB.out⟩
end Go.Proofs.YtdhajndmebnknaaGreat
