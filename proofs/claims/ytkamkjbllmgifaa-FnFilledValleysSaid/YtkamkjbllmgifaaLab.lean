/- The black pixels of an image, in reading order: the program's. The labels of components: the program's. -/
import Derived.Test.YtkamkjbllmgifaaPicL
import Derived.Test.YtkamkjbllmgifaaWaysB
import Derived.Laws.EntriesVeiled
import Derived.Test.YtkamkjbllmgifaaSpr
import Derived.Test.YtkamkjbllmgifaaMapR
namespace Go.Proofs.Ytkamkjbllmgifaa
open Go.RowKit

/-- The black ones of the first k pixels. -/
def spB (L : List Bool) (W k : Nat) : List (Int × Int) := ((List.range k).filter fun i => L.getD i false).map fun i => (((i % W : Nat) : Int), ((i / W : Nat) : Int))
theorem spB_succ (L : List Bool) (W k : Nat) : spB L W (k + 1) = spB L W k ++ if L.getD k false then [(((k % W : Nat) : Int), ((k / W : Nat) : Int))] else [] := by
  rw [spB, List.range_succ, List.filter_append, List.map_append]
  congr 1
  rw [List.filter_cons, List.filter_nil]
  cases L.getD k false <;> rfl
theorem spB_len (L : List Bool) (W k : Nat) : (spB L W k).length ≤ k := by
  rw [spB, List.length_map]
  exact Nat.le_trans (List.length_filter_le _ _) (by simp)
theorem spB_mem {L : List Bool} {W H : Nat} {s : Int × Int} (hW : 0 < W) : s ∈ spB L W (W * H) ↔ ∃ x y : Nat, s = ((x : Int), (y : Int)) ∧ x < W ∧ y < H ∧ L.getD (y * W + x) false = true := by
  rw [spB, List.mem_map]
  constructor
  · rintro ⟨i, hi, rfl⟩
    rw [List.mem_filter, List.mem_range] at hi
    obtain ⟨e, hm⟩ := pl_eq i hW
    exact ⟨i % W, i / W, rfl, hm, pl_row hi.1, by rw [← e]; exact hi.2⟩
  · rintro ⟨x, y, rfl, hx, hy, hb⟩
    refine ⟨y * W + x, ?_, ?_⟩
    · rw [List.mem_filter, List.mem_range]; exact ⟨pl_lt hx hy, hb⟩
    · rw [plM hx, plD hx]
/-- What is held while the black pixels are laid in a list. -/
structure SptInv (w : World) (p g W H tm to' : Nat) (L : List Bool) (k : Nat) (wr : World) : Prop where
  img : Img wr p g W H L
  tm : Blk wr tm 98 #[.pointer (some ⟨p, 0, none⟩)]
  out : ∃ gb cb, Blk wr to' 66 #[.slice (some ⟨gb, 0, none⟩) (spB L W k).length cb] ∧ wr.ownsRow w.heap.size 39 2 (.slice (some ⟨gb, 0, none⟩) (spB L W k).length cb) (spB L W k).length (spL (spB L W k))
  ext : Below w.heap.size w wr
theorem enters_spots1M : Enters 126 := enters_of Try.func126 (by kernel_rfl) (by kernel_rfl)
set_option maxRecDepth 100000 in
set_option maxHeartbeats 1000000 in
theorem spots1M_any (w : World) (p g W H tm to' : Nat) (L : List Bool) (x y : Nat) (wr : World) (hI : SptInv w p g W H tm to' L (y * W + x) wr) (hto : w.heap.size ≤ to') (hp : p < w.heap.size) (hg : g < w.heap.size) (hW : W ≤ 1000) (hH : H ≤ 1000) (hx : x < W) (hy : y < H) :
    Calls Try.prog 126 #[.int .i64 x, .int .i64 y, .pointer (some ⟨tm, 0, none⟩), .pointer (some ⟨to', 0, none⟩)] wr fun e w' => e = .returned (.tuple #[]) ∧ SptInv w p g W H tm to' L (y * W + x + 1) w' := by
  obtain ⟨gb, cb, hT, ho⟩ := hI.out
  have c0 := hI.tm.cell 0
  simp at c0
  have GK := Lib.hid (get_any p g W H L x y wr hI.img hW hH)
  have hl : y * W + x < L.length := by
    rw [hI.img.len]
    have := (mul_bd hy hW hH).2
    omega
  have bi : bit L W H x y = L[y * W + x]'hl := by rw [bit_in hx hy, List.getD_eq_getElem?_getD, List.getElem?_eq_getElem hl]; rfl
  rw [bi] at GK
  have CS := Lib.hid (spB_succ L W (y * W + x))
  rw [plM hx, plD hx, List.getD_eq_getElem?_getD, List.getElem?_eq_getElem hl, Option.getD_some] at CS
  have kb : (spB L W (y * W + x)).length ≤ 1000000 := by
    have := spB_len L W (y * W + x)
    have := (mul_bd hy hW hH).2
    have : W * H ≤ 1000 * 1000 := Nat.mul_le_mul hW hH
    omega
  have HI := Lib.hid hI
  have hne : gb ≠ to' := by
    have := own_blk_ne ho hT (by decide)
    intro e
    exact this (by rw [e]; rfl)
  have hgb := (ho.lt gb rfl).1
  clear bi
  generalize L[y * W + x]'hl = b at *
  cases b
  · have CE : Hid (spB L W (y * W + x + 1) = spB L W (y * W + x)) := by rw [Hid, CS.out]; simp
    clear hI
    go_enter Try.func126, Try.ntmps126
    go_wp2_with fail
    refine GK.out.mono ?_
    rintro e w2 ⟨rfl, nd, rfl⟩
    go_wp2_with fail
    go_end0
    exact ⟨rfl, HI.out.img.drewN nd, HI.out.tm, ⟨gb, cb, by rw [CE.out]; exact hT, by rw [CE.out]; exact ho⟩, Ext.drawN HI.out.ext nd⟩
  · have CE : Hid (spB L W (y * W + x + 1) = spB L W (y * W + x) ++ [((x : Int), (y : Int))]) := by rw [Hid, CS.out]; simp
    clear hI
    go_enter Try.func126, Try.ntmps126
    go_wp2_with fail
    refine GK.out.mono ?_
    rintro e w2 ⟨rfl, nd, rfl⟩
    have I2 : Img (wr.drewN nd) p g W H L := HI.out.img.drewN nd
    have M2 : Blk (wr.drewN nd) tm 98 #[.pointer (some ⟨p, 0, none⟩)] := HI.out.tm
    have T2 : Blk (wr.drewN nd) to' 66 #[.slice (some ⟨gb, 0, none⟩) (spB L W (y * W + x)).length cb] := hT
    have O2 : (wr.drewN nd).ownsRow w.heap.size 39 2 (.slice (some ⟨gb, 0, none⟩) (spB L W (y * W + x)).length cb) (spB L W (y * W + x)).length (spL (spB L W (y * W + x))) := ho
    have E2 : Below w.heap.size w (wr.drewN nd) := Ext.drawN HI.out.ext nd
    clear hT ho c0
    generalize spB L W (y * W + x) = xs at *
    obtain ⟨m, hm⟩ : ∃ m, xs.length = m := ⟨_, rfl⟩
    have HMM := Lib.hid hm
    rw [hm] at kb T2 O2
    clear hm
    generalize wr.drewN nd = w2 at *
    have c1 := T2.cell 0
    simp at c1
    have hsz := E2.size
    have tl := T2.lt
    go_wp2_with (at_builtin; refine wpList_app spotT (by rfl) _ _ (by rfl) w.heap.size (.slice (some ⟨gb, 0, none⟩) m cb) m (spL xs) (by rfl) (O2.alloc _) w2.heap.size #[.int .i64 x, .int .i64 y] (by rfl) (heap_alloc_new _ _) rfl (by simp [Value.oneCell']) (by omega) (by simp; omega) ?_; intro g3 cap3 w3 hown3 hgrow3 hat3 hlt3; have T3 : Blk w3 to' 66 #[.slice (some ⟨gb, 0, none⟩) m cb] := (T2.more _).by_grown hgrow3 (by simp [Value.ownBlock]; omega); have c3 : w3.cell? ⟨to', 0, none⟩ = some (.slice (some ⟨gb, 0, none⟩) m cb) := (by have := T3.cell 0; simpa using this); have f3 := T3.free 0)
    have far : ∀ b, b < w.heap.size → some b ≠ (Value.slice (some ⟨gb, 0, none⟩) m cb).ownBlock := fun b hb => by simp [Value.ownBlock]; omega
    have E3 : Below w.heap.size w w3 := (E2.alloc hsz _).grown hgrow3 (by simp; omega) (fun z hz => by simp [Value.ownBlock] at hz; omega)
    have I3 : Img w3 p g W H L := ⟨(I2.hdr.more _).by_grown hgrow3 (far p hp), (I2.bits.more _).by_grown hgrow3 (far g hg), I2.len⟩
    have M3 : Blk w3 tm 98 #[.pointer (some ⟨p, 0, none⟩)] := (M2.more _).by_grown hgrow3 (fun e => by
      have := own_blk_ne O2 M2 (by decide)
      exact this e.symm)
    have hne3 : g3 ≠ to' := by
      rcases hat3 with h | h
      · simp [Value.ownBlock] at h; omega
      · simp at h; omega
    have HX := Lib.hid (And.intro I3 (And.intro M3 (And.intro T3 (And.intro hown3 E3))))
    clear I3 M3 T3 hown3 E3 hgrow3 hat3 I2 M2 T2 O2 E2 far
    go_end0
    obtain ⟨I3, M3, T3, hown3, E3⟩ := HX.out
    refine ⟨rfl, ⟨I3.hdr.apart (p := ⟨to', 0, none⟩) (by show p ≠ to'; omega) _, I3.bits.apart (p := ⟨to', 0, none⟩) (by show g ≠ to'; omega) _, I3.len⟩, M3.apart (p := ⟨to', 0, none⟩) (fun e => M3.ne T3 (by decide) e) _, ⟨g3, cap3, ?_, ?_⟩, E3.setCell (p := ⟨to', 0, none⟩) hto _⟩
    · have := T3.store 0 (.slice (some ⟨g3, 0, none⟩) (m + 1) cap3)
      rw [CE.out, List.length_append, HMM.out]; simpa using this
    · rw [CE.out, List.length_append, HMM.out, spL_append]
      have hg3 := (hown3.lt g3 rfl).1
      refine (Chg.store (Chg.refl (fun b => b = to') w3) (p := ⟨to', 0, none⟩) rfl _).own hown3 (fun b hb => ?_)
      simp [Value.ownBlock] at hb
      omega
set_option maxRecDepth 100000 in
set_option maxHeartbeats 1000000 in
theorem spotsM_any (p g W H : Nat) (L : List Bool) (w : World) (h : Img w p g W H L) (hW : W ≤ 1000) (hH : H ≤ 1000) :
    Calls Try.prog 108 #[.pointer (some ⟨p, 0, none⟩)] w fun e w' => ∃ gb cb, e = .returned (.slice (some ⟨gb, 0, none⟩) (spB L W (W * H)).length cb) ∧ w'.ownsRow w.heap.size 39 2 (.slice (some ⟨gb, 0, none⟩) (spB L W (W * H)).length cb) (spB L W (W * H)).length (spL (spB L W (W * H))) ∧ Below w.heap.size w w' := by
  have hmf : ∀ (fn : Fn) (first cap : Array Value) (w : World), (Instr.makeFunc fn first cap).run Try.prog w = .ok (.func fn first cap) w := fun _ _ _ _ => rfl
  have hp := h.hdr.lt
  have hg := h.bits.lt
  have C0 : Hid (spB L W 0 = []) := rfl
  obtain ⟨w2, hw2⟩ : ∃ w2, ((w.alloc (.cells #[.pointer (some ⟨p, 0, none⟩)] 98)).alloc (.cells #[] 39)).alloc (.cells #[.slice (some ⟨w.heap.size + 1, 0, none⟩) 0 0] 66) = w2 := ⟨_, rfl⟩
  have I0 : SptInv w p g W H w.heap.size (w.heap.size + 1 + 1) L 0 w2 := by
    have hrow0 := World.ownsRow_lit (e := 39) (size := 2) (w.alloc (.cells #[.pointer (some ⟨p, 0, none⟩)] 98)) #[] 0 (Nat.le_refl _) (by decide) rfl
    have T := Blk.made ((w.alloc (.cells #[.pointer (some ⟨p, 0, none⟩)] 98)).alloc (.cells #[] 39)) 66 #[.slice (some ⟨w.heap.size + 1, 0, none⟩) 0 0]
    have E : Below w.heap.size w w2 := by rw [← hw2]; exact Ext.more (Ext.more (Ext.more (Ext.refl _) _) _) _
    refine ⟨h.ext E, ?_, ⟨w.heap.size + 1, 0, ?_, ?_⟩, E⟩
    · rw [← hw2]; exact ((Blk.made w _ _).more _).more _
    · rw [C0.out, ← hw2]; simpa using T
    · rw [C0.out, ← hw2]
      have := own_base (base' := w.heap.size) hrow0 (by simp)
      have := this.alloc (.cells #[.slice (some ⟨w.heap.size + 1, 0, none⟩) 0 0] 66)
      simpa [spL] using this
  have E := Lib.hid (each_any p W H (.slice (some ⟨g, 0, none⟩) (W * H) (W * H)) 126 #[.pointer (some ⟨w.heap.size, 0, none⟩), .pointer (some ⟨w.heap.size + 1 + 1, 0, none⟩)]
    (SptInv w p g W H w.heap.size (w.heap.size + 1 + 1) L) w2 hW hH (fun _ _ h => h.img.hdr) (fun x y hx hy wr h => spots1M_any w p g W H w.heap.size (w.heap.size + 1 + 1) L x y wr h (by omega) hp hg hW hH hx hy) I0 enters_spots1M)
  have c0 := I0.tm.cell 0
  simp at c0
  clear h I0
  go_enter Try.func108, Try.ntmps108
  go_wp2_with fail
  try simp only [hw2]
  refine E.out.mono ?_
  rintro e w3 ⟨rfl, hI⟩
  obtain ⟨gb, cb, hT, ho⟩ := hI.out
  have HO := Lib.hid ho
  have c1 := hT.cell 0
  simp at c1
  have HB := Lib.hid hI.ext
  clear hI hT ho C0
  go_wp2_with fail
  go_ret
  exact ⟨_, _, rfl, HO.out, HB.out⟩
end Go.Proofs.Ytkamkjbllmgifaa

namespace Go.Proofs.Ytkamkjbllmgifaa
open Go.RowKit

/-- Black pixels. -/
def okI (L : List Bool) (W H : Nat) (s : Int × Int) : Bool := bit L W H s.1 s.2
theorem okI_iff {L : List Bool} {W H : Nat} {s : Int × Int} : okI L W H s = true ↔ ∃ x y : Nat, s = ((x : Int), (y : Int)) ∧ x < W ∧ y < H ∧ L.getD (y * W + x) false = true := by
  unfold okI bit
  simp only [Bool.and_eq_true, decide_eq_true_eq]
  constructor
  · rintro ⟨⟨⟨⟨h1, h2⟩, h3⟩, h4⟩, h5⟩
    refine ⟨s.1.toNat, s.2.toNat, Prod.ext (by simp only; omega) (by simp only; omega), by omega, by omega, ?_⟩
    have e1 : s.1 = (s.1.toNat : Int) := by omega
    have e2 : s.2 = (s.2.toNat : Int) := by omega
    have e : (s.2 * W + s.1).toNat = s.2.toNat * W + s.1.toNat := by
      rw [e1, e2]; simp only [Int.toNat_natCast]; rw [← Int.natCast_mul, ← Int.natCast_add, Int.toNat_natCast]
    rw [← e]; exact h5
  · rintro ⟨x, y, rfl, hx, hy, hb⟩
    have e : (((y : Int)) * W + (x : Int)).toNat = y * W + x := by rw [← Int.natCast_mul, ← Int.natCast_add, Int.toNat_natCast]
    refine ⟨⟨⟨⟨by simp only; omega, by simp only; omega⟩, by simp only; omega⟩, by simp only; omega⟩, ?_⟩
    simp only [e]; exact hb
theorem okB_I (L : List Bool) {W H : Nat} (hW : W ≤ 20) (hH : H ≤ 20) : OkB (okI L W H) (W * H) where
  pos := by
    refine ⟨fun s => s.2.toNat * W + s.1.toNat, ?_, ?_⟩
    · intro q hq
      obtain ⟨x, y, rfl, hx, hy, _⟩ := okI_iff.1 hq
      exact pl_lt hx hy
    · intro a b ha hb e
      obtain ⟨x, y, rfl, hx, hy, _⟩ := okI_iff.1 ha
      obtain ⟨u, v, rfl, hu, hv, _⟩ := okI_iff.1 hb
      simp only [Int.toNat_natCast] at e
      have e1 := plD (y := y) hx
      have e2 := plD (y := v) hu
      have e3 := plM (y := y) hx
      have e4 := plM (y := v) hu
      rw [e] at e1 e3
      rw [← e1, ← e3, e2, e4]
  bd q hq := by
    obtain ⟨x, y, rfl, hx, hy, _⟩ := okI_iff.1 hq
    simp only
    omega
/-- What a map of labels holds. -/
def lv (f : Int × Int → Nat) : Int × Int → Option Value := fun s => if f s = 0 then none else some (.int .i64 (f s))
theorem lv_get (f : Int × Int → Nat) (s : Int × Int) : (lv f s).getD (.int .i64 0) = .int .i64 (f s) := by
  unfold lv; split
  · rename_i h; rw [h]; rfl
  · rfl
theorem zeroInt64' (w : World) : (zeroValue 2).run Try.prog w = .ok (.int .i64 0) w := by kernel_rfl

theorem enters_labels1 : Enters 110 := enters_of Try.func110 (by kernel_rfl) (by kernel_rfl)
set_option maxHeartbeats 400000 in
theorem labels1_any (p g W H m : Nat) (L : List Bool) (x y : Int) (w : World) (h : Img w p g W H L) (hm : Blk w m 98 #[.pointer (some ⟨p, 0, none⟩)]) (hW : W ≤ 1000) (hH : H ≤ 1000) :
    Calls Try.prog 110 (#[.agg #[.int .i64 x, .int .i64 y]] ++ #[.pointer (some ⟨m, 0, none⟩)]) w fun e w' => e = .returned (.bool (bit L W H x y)) ∧ Below w.heap.size w w' := by
  have B0 : Below w.heap.size w (w.alloc (.cells #[.int .i64 x, .int .i64 y] 39)) := Ext.more (Ext.refl _) _
  have GK := Lib.hid (get_any p g W H L x y _ (h.ext B0) hW hH)
  have k3 : (w.alloc (.cells #[.int .i64 x, .int .i64 y] 39)).cell? ⟨w.heap.size, 0, none⟩ = some (.int .i64 x) := cell_new w _ _ 0
  have k4 : (w.alloc (.cells #[.int .i64 x, .int .i64 y] 39)).cell? ⟨w.heap.size, 1, none⟩ = some (.int .i64 y) := cell_new w _ _ 1
  have c0 := (hm.under B0 hm.lt).cell 0
  simp at c0
  clear h hm
  generalize bit L W H x y = b at *
  go_enter Try.func110, Try.ntmps110
  go_wp2_with fail
  refine GK.out.mono ?_
  rintro e w2 ⟨rfl, nd, rfl⟩
  go_wp2_with fail
  go_ret
  exact ⟨rfl, Ext.drawN B0 nd⟩

/-- Labels in memory. -/
structure LbI (w0 : World) (M m ga p g W H : Nat) (L : List Bool) (l : List (Int × Int)) (f : Int × Int → Nat) (wr : World) : Prop where
  img : Img wr p g W H L
  box : Blk wr m 98 #[.pointer (some ⟨p, 0, none⟩)]
  sp : SpAt wr ga l
  map : MapF spV spOk wr M (lv f)
  ext : Below w0.heap.size w0 wr
section
variable {w0 : World} {M m ga p g W H : Nat} {L : List Bool} {l : List (Int × Int)} {f : Int × Int → Nat} {wr w' : World}
theorem LbI.step (h : LbI w0 M m ga p g W H L l f wr) (hb : Below wr.heap.size wr w') : LbI w0 M m ga p g W H L l f w' :=
  ⟨h.img.ext hb, h.box.under hb h.box.lt, h.sp.ext hb, h.map.ext hb, Ext.then_ h.ext hb⟩
theorem LbI.grown (h : LbI w0 M m ga p g W H L l f wr) {r : Nat} (hg : wr.grownBy w' (some r)) (hr : w0.heap.size ≤ r) (hm : r ≠ m) (hga : r ≠ ga) (hp : p < w0.heap.size) (hgg : g < w0.heap.size) {f' : Int × Int → Nat} (hM : MapF spV spOk w' M (lv f')) :
    LbI w0 M m ga p g W H L l f' w' :=
  ⟨⟨h.img.hdr.by_grown hg (by simp; omega), h.img.bits.by_grown hg (by simp; omega), h.img.len⟩, h.box.by_grown hg (by simp; omega), h.sp.grown2 hg (by simp; omega), hM, h.ext.grown hg h.ext.size (fun z hz => by cases hz; exact hr)⟩
end
theorem lv_put (f : Int × Int → Nat) (R : Int × Int → Bool) (n : Nat) (left left' : Int × Int → Bool) (a : Int × Int) (ha : R a = true) (hl : ∀ b, left' b = true ↔ left b = true ∧ b ≠ a) :
    putF (lv fun q => if R q && !left q then n + 1 else f q) a (.int .i64 ((n + 1 : Nat) : Int)) = lv fun q => if R q && !left' q then n + 1 else f q := by
  funext q
  by_cases e : q = a
  · subst e
    have h1 : left' q = false := by
      cases h : left' q
      · rfl
      · exact absurd rfl ((hl q).1 h).2
    rw [putF_same]
    simp [lv, ha, h1]
  · rw [putF_other _ _ e]
    have h1 : left' q = left q := by
      have := hl q
      cases h2 : left q <;> cases h3 : left' q <;> simp [h2, h3, e] at this ⊢
    simp [lv, h1]

set_option maxRecDepth 100000 in
set_option maxHeartbeats 4000000 in
theorem labels_any {eight : Bool} {nb : Int × Int → List (Int × Int)} {K : Nat} (NB : NbT eight nb K) (hK : K ≤ 8) (p g W H : Nat) (L : List Bool) (w : World) (h : Img w p g W H L) (hW : W ≤ 18) (hH : H ≤ 18) (hW0 : 0 < W) :
    Calls Try.prog 89 #[.pointer (some ⟨p, 0, none⟩), .bool eight] w fun e w' =>
      e = .returned (.tuple #[.map (some (w.heap.size + 1)), .int .i64 ((labL (rchB nb (okI L W H) (W * H)) (spB L W (W * H))).2 : Nat)]) ∧
      MapF spV spOk w' (w.heap.size + 1) (lv (labL (rchB nb (okI L W H) (W * H)) (spB L W (W * H))).1) ∧ Below w.heap.size w w' := by
  have hmm := @run_makeMap Try.prog
  have hmf : ∀ (fn : Fn) (first cap : Array Value) (w : World), (Instr.makeFunc fn first cap).run Try.prog w = .ok (.func fn first cap) w := fun _ _ _ _ => rfl
  have hp := h.hdr.lt
  have hg := h.bits.lt
  have hWH : W * H ≤ 324 := Nat.le_trans (Nat.mul_le_mul hW hH) (by decide)
  obtain ⟨w1, hw1⟩ : ∃ w1, w.alloc (.cells #[.pointer (some ⟨p, 0, none⟩)] 98) = w1 := ⟨_, rfl⟩
  have z1 : w1.heap.size = w.heap.size + 1 := by rw [← hw1]; simp
  have T1 : Blk w1 w.heap.size 98 #[.pointer (some ⟨p, 0, none⟩)] := by rw [← hw1]; exact Blk.made w _ _
  have B1 : Below w.heap.size w w1 := by rw [← hw1]; exact Ext.more (Ext.refl _) _
  have M1 := MapF.made (kv := spV) (good := spOk) w1
  rw [z1] at M1
  have hm1 := h.ext B1
  have T2 := T1.more (.map #[] 0)
  have B2 := B1.alloc B1.size (.map #[] 0)
  have hm2 := hm1.ext (Ext.more (Ext.refl w1) (.map #[] 0))
  have z2 : (w1.alloc (.map #[] 0)).heap.size = w.heap.size + 2 := by simp [z1]
  have c2 := T2.cell 0
  simp at c2
  have SP := Lib.hid (spotsM_any p g W H L _ hm2 (by omega) (by omega))
  have OB := Lib.hid (okB_I L (W := W) (H := H) (by omega) (by omega))
  have MEM := Lib.hid (fun s (hs : s ∈ spB L W (W * H)) => okI_iff.2 ((spB_mem hW0).1 hs))
  have NBH := Lib.hid NB
  clear h hm1 T1 B1 hmm
  have hmm := @run_makeMap Try.prog
  have LBD := Lib.hid (labL_le (rchB nb (okI L W H) (W * H)) (spB L W (W * H)))
  have LBS := Lib.hid (labL_succ (rchB nb (okI L W H) (W * H)) (spB L W (W * H)))
  have LBE : Hid ((spB L W (W * H)).take (spB L W (W * H)).length = spB L W (W * H)) := List.take_length
  have slb := spB_len L W (W * H)
  have GTR : Hid (∀ V s wr, LbI w (w.heap.size + 1) w.heap.size s p g W H L (spB L W (W * H)) V wr → ∀ x y : Int, Calls Try.prog 110 (#[.agg #[.int .i64 x, .int .i64 y]] ++ #[.pointer (some ⟨w.heap.size, 0, none⟩)]) wr fun e w' => e = .returned (.bool (okI L W H (x, y))) ∧ Below wr.heap.size wr w') :=
    fun V s wr h x y => labels1_any p g W H w.heap.size L x y wr h.img h.box (by omega) (by omega)
  generalize spB L W (W * H) = sl at *
  go_enter Try.func89, Try.ntmps89
  go_wp2_with fail
  refine SP.out.mono ?_
  rintro e w3 ⟨ga, ca, rfl, hrow, hb3⟩
  have hga := (hrow.lt ga rfl).1
  rw [z2] at hga
  have S3 : SpAt w3 ga sl := own_spots hrow rfl
  have I0 : LbI w (w.heap.size + 1) w.heap.size ga p g W H L sl (labL (rchB nb (okI L W H) (W * H)) (sl.take 0)).1 w3 := by
    refine ⟨hm2.ext hb3, T2.under hb3 T2.lt, S3, ?_, Ext.then_ B2 hb3⟩
    have : lv (labL (rchB nb (okI L W H) (W * H)) (sl.take 0)).1 = fun _ => none := by
      funext q; simp [lv, labL]
    rw [this]
    exact M1.ext hb3
  have N0 : Hid ((labL (rchB nb (okI L W H) (W * H)) (sl.take 0)).2 = 0) := rfl
  obtain ⟨n, hn⟩ : ∃ n, sl.length = n := ⟨_, rfl⟩
  have HN := Lib.hid hn
  rw [hn] at slb hrow
  rw [hn]
  clear hn hrow hb3 S3 SP M1 B2 T2 hm2 c2 z2 z1 hw1
  go_wp2_with fail
  go_loopw [7, 15] (fun m i wr => ∃ k : Nat, k ≤ n ∧ i = .int .i64 k ∧ m = .int .i64 (labL (rchB nb (okI L W H) (W * H)) (sl.take k)).2 ∧ LbI w (w.heap.size + 1) w.heap.size ga p g W H L sl (labL (rchB nb (okI L W H) (W * H)) (sl.take k)).1 wr) (fun _ i _ => n - (intOf i).toNat)
  case atStart => exact ⟨0, Nat.zero_le _, rfl, rfl, I0⟩
  case round =>
    obtain ⟨k, hk, rfl, rfl, I⟩ := hrel
    clear I0 N0
    by_cases hlt : k < n
    · have hkl : k < sl.length := by rw [HN.out]; exact hlt
      obtain ⟨c0, c1⟩ := I.sp.2 k hkl
      have hmem := MEM.out _ (List.getElem_mem hkl)
      have LS := Lib.hid (LBS.out k hkl)
      obtain ⟨lb1, lb2⟩ := LBD.out k (by omega)
      have i0 : (0 : Int) ≤ (k : Int) := by omega
      have i1 : (k : Int) < (n : Int) := by omega
      obtain ⟨x, y, hxy, hx, hy, _⟩ := okI_iff.1 hmem
      rw [hxy] at c0 c1 LS hmem
      simp only at c0 c1
      generalize hst : labL (rchB nb (okI L W H) (W * H)) (sl.take k) = st at *
      have HST := Lib.hid hst
      clear hst hxy
      obtain ⟨f, m⟩ := st
      simp only at I lb1 lb2 ⊢
      have QK : Hid (spOk ((x : Int), (y : Int))) := ⟨by simp only; omega, by simp only; omega⟩
      have EX := Ext.more (Ext.refl wr) (.cells #[.int .i64 x, .int .i64 y] 39)
      have IX := Lib.hid (I.step EX)
      have IXm := IX.out.map
      have k13 : (wr.alloc (.cells #[.int .i64 x, .int .i64 y] 39)).cell? ⟨wr.heap.size, 0, none⟩ = some (.int .i64 x) := cell_new wr _ _ 0
      have l13 : (wr.alloc (.cells #[.int .i64 x, .int .i64 y] 39)).cell? ⟨wr.heap.size, 1, none⟩ = some (.int .i64 y) := cell_new wr _ _ 1
      have lvg := lv_get f ((x : Int), (y : Int))
      have zI := I.ext.size
      have zM := I.map.lt
      by_cases hf : 0 < f ((x : Int), (y : Int))
      · have FS : Hid (labL (rchB nb (okI L W H) (W * H)) (sl.take (k + 1)) = (f, m)) := by rw [Hid, LS.out, labStep, if_pos hf]
        generalize f ((x : Int), (y : Int)) = fv at *
        clear I hmem
        go_wp2_with (at_lookup; refine wpList_lookF spotK _ (by rfl) _ _ _ false (by rfl) Try.underlying116 (zeroInt64' _) (by rfl) IX.out.map ((x : Int), (y : Int)) QK.out (by rfl) ?_)
        go_roundw
        case rel => exact ⟨k + 1, by omega, by go_num, by rw [FS.out], by rw [FS.out]; exact IX.out⟩
        case measure => simp [intOf]; omega
      · have FS : Hid (labL (rchB nb (okI L W H) (W * H)) (sl.take (k + 1)) = (fun q => if rchB nb (okI L W H) (W * H) ((x : Int), (y : Int)) q then m + 1 else f q, m + 1)) := by rw [Hid, LS.out, labStep, if_neg hf]
        have f0 : f ((x : Int), (y : Int)) = 0 := by omega
        rw [f0] at lvg
        clear hf f0
        have EY := Ext.more (Ext.refl (wr.alloc (.cells #[.int .i64 x, .int .i64 y] 39))) (.cells #[.int .i64 x, .int .i64 y] 39)
        have IY := Lib.hid (IX.out.step EY)
        have zq : ((wr.alloc (.cells #[.int .i64 x, .int .i64 y] 39)).alloc (.cells #[.int .i64 x, .int .i64 y] 39)).heap.size = wr.heap.size + 1 + 1 := by simp
        have SR := Lib.hid (spread_any NBH.out hK OB.out (by omega) x y hmem (wr.heap.size + 1) 0 1 110 #[.pointer (some ⟨w.heap.size, 0, none⟩)] ((wr.alloc (.cells #[.int .i64 x, .int .i64 y] 39)).alloc (.cells #[.int .i64 x, .int .i64 y] 39))
          (by simp) (by simp) (by simp) enters_labels1 (fun u v _ _ wx hb => GTR.out f ga wx (IY.out.step hb) u v))
        have HR : Hid (∀ q, rchB nb (okI L W H) (W * H) ((x : Int), (y : Int)) q = (rchF nb (okI L W H) (W * H) ((x : Int), (y : Int)) q).isSome) := fun _ => rfl
        rw [zq] at SR
        generalize rchB nb (okI L W H) (W * H) ((x : Int), (y : Int)) = R at *
        generalize rchF nb (okI L W H) (W * H) ((x : Int), (y : Int)) = RF at *
        have mk : IntKind.i64.wrap ((m : Int) + 1) = (m : Int) + 1 := IntWalk.i64_in _ (by omega)
        clear I hmem IX
        go_wp2_with (at_lookup; refine wpList_lookF spotK _ (by rfl) _ _ _ false (by rfl) Try.underlying116 (zeroInt64' _) (by rfl) IXm ((x : Int), (y : Int)) QK.out (by rfl) ?_)
        refine SR.out.mono ?_
        rintro e w5 ⟨rfl, hM5, hb5⟩
        rw [← zq] at hb5
        have I5 := IY.out.step hb5
        have z5 := hb5.size
        rw [zq] at z5
        clear IY SR EY k13 l13 c0 c1 lvg LS HST
        go_wp2_with (at_range; refine wpList_rangeF spotK _ (by rfl) _ _ (by rfl) Try.underlying136 (by rfl) hM5 ?_; intro w6 cnt hrg hb6 hz6)
        go_frame
        have I6 := I5.step hb6
        have zga := I5.sp.1
        clear I5 hM5
        have hfs : (fun q => if R q && !(bv RF q).isSome then m + 1 else f q) = f := by
          funext q
          have e : (bv RF q).isSome = R q := by rw [HR.out]; simp [bv]
          rw [e]; simp
        obtain ⟨wo, rfl⟩ : ∃ wo, wo = wr := ⟨_, rfl⟩
        clear IXm EX
        go_loopg [10] cnt (fun n _ wx => ∃ left : Int × Int → Bool, RngF spV spOk wx (wo.heap.size + 1 + 1) w5.heap.size (bv RF) left n ∧ LbI w (w.heap.size + 1) w.heap.size ga p g W H L sl (fun q => if R q && !left q then m + 1 else f q) wx)
        case atStart => exact ⟨_, hrg, by rw [hfs]; exact I6⟩
        case round =>
          obtain ⟨left, hr0, J⟩ := hrel
          clear I6 hfs hrg
          have zr := hr0.lt
          have zJ := J.ext.size
          go_wp2_with (at_next; refine wpList_nextF spotK _ (by rfl) _ (by rfl) (by rfl) hr0 ?_ ?_)
          · intro hl0
            have LE : Hid (labL (rchB nb (okI L W H) (W * H)) (sl.take (k + 1)) = (fun q => if R q && !left q then m + 1 else f q, m + 1)) := by
              rw [Hid, FS.out]
              simp [hl0]
            have HJ := Lib.hid J
            clear J hr0
            go_wp2_with fail
            go_roundw
            case rel => exact ⟨k + 1, by omega, by go_num, by rw [LE.out]; go_num, by rw [LE.out]; exact HJ.out⟩
            case measure => simp [intOf]; omega
          · intro a1 a2 v w7 cnt1 left' ha hla hfa hl' hrg1 hltc hg7 hz7 hen
            have J7 := Lib.hid (J.grown hg7 (by omega) (by omega) (by omega) hp hg (J.map.of_block (hg7.block _ J.map.lt (by simp; omega))))
            have HL : Hid (∀ b, left' b = true ↔ left b = true ∧ b ≠ (a1, a2)) := fun b => by
              obtain ⟨b1, b2⟩ := b
              rw [hl' b1 b2]
              simp
            have Ra : R (a1, a2) = true := by
              rw [HR.out]
              unfold bv at hfa
              cases h : RF (a1, a2)
              · rw [h] at hfa; cases hfa
              · rfl
            have PE := Lib.hid (lv_put f R m left left' (a1, a2) Ra HL.out)
            have QA : Hid (spOk (a1, a2)) := ha
            have e : spV (a1, a2) = .agg #[.int .i64 a1, .int .i64 a2] := rfl
            rw [e] at hen ⊢
            have EX := Ext.more (Ext.refl w7) (.cells #[.int .i64 a1, .int .i64 a2] 39)
            have J8 := Lib.hid (J7.out.step EX)
            have R8 := Lib.hid (hrg1.ext EX)
            have k15 : (w7.alloc (.cells #[.int .i64 a1, .int .i64 a2] 39)).cell? ⟨w7.heap.size, 0, none⟩ = some (.int .i64 a1) := cell_new w7 _ _ 0
            have l15 : (w7.alloc (.cells #[.int .i64 a1, .int .i64 a2] 39)).cell? ⟨w7.heap.size, 1, none⟩ = some (.int .i64 a2) := cell_new w7 _ _ 1
            clear J hr0 hl' hla hfa ha Ra hg7 hrg1 e
            go_wp2_with (at_mapUpdate; refine wpList_putF spotK _ (by rfl) _ _ _ _ (by rfl) Try.underlying116 (by rfl) J8.out.map (a1, a2) QA.out (by rfl) ?_; intro w9 hm9 hg9 hz9)
            have hm9' : MapF spV spOk w9 (w.heap.size + 1) (lv fun q => if R q && !left' q then m + 1 else f q) := by
              rw [← PE.out]
              have : putF (lv fun q => if R q && !left q then m + 1 else f q) (a1, a2) (.int .i64 ((m : Int) + 1)) = putF (lv fun q => if R q && !left q then m + 1 else f q) (a1, a2) (.int .i64 ((m + 1 : Nat) : Int)) := by simp
              rw [← this]
              exact hm9
            have J9 := Lib.hid (J8.out.grown hg9 (by omega) (by omega) (by omega) hp hg hm9')
            have R9 := Lib.hid (R8.out.kept hg9 (by simp; omega) (by simp; omega))
            clear hm9 hm9' hg9 k15 l15
            go_roundg cnt1
            case measure => exact hltc
            case rel => exact ⟨left', R9.out, J9.out⟩
    · obtain rfl : k = n := by omega
      have LE := LBE.out
      rw [HN.out] at LE
      rw [LE] at I ⊢
      have HI := Lib.hid I
      clear I LE
      go_wp2_with fail
      go_ret2
      exact ⟨rfl, HI.out.map, HI.out.ext⟩
end Go.Proofs.Ytkamkjbllmgifaa
