/- Bytes and texts. Pictures in memory: the smallest functions of images. Images: set, blank, each, made. Images: made. Images told as pictures. The laws' own functions of lists of texts. The laws' marks on texts. The laws' own functions of pictures. -/
import Derived.Test.YtkamkjbllmgifaaEq
import Derived.Laws.IdiomStrings
import Derived.Deep.RegionHeld3
namespace Go.Proofs.Ytkamkjbllmgifaa
open Go.RowKit

def u8s (l : List UInt8) : List Value := l.map fun b => .int .u8 (b.toNat : Int)
theorem byteT : ElemT 22 5 (.int .u8 0) 1 1 := ⟨Try.underlying22, by kernel_rfl, rfl, by decide, by decide⟩
theorem str_of_own {w : World} {base g n cap : Nat} {l : List UInt8} (h : w.ownsRow base 5 1 (.slice (some ⟨g, 0, none⟩) n cap) n (u8s l)) (hn : l.length = n) :
    (convert 22 9 (.slice (some ⟨g, 0, none⟩) n cap)).run Try.prog w = .ok (.string ⟨l.toArray⟩) w := by
  subst hn
  refine run_convert_bytes_back w _ _ 5 _ _ l Try.underlying22 Try.underlying5 Try.underlying9 (fun j hj => ?_)
  rw [Addr.add_lit, Nat.zero_add, h.cellAt j (by omega)]
  simp [u8s, hj]
theorem bytes_app (a b : List UInt8) : (ByteArray.mk a.toArray) ++ (ByteArray.mk b.toArray) = ByteArray.mk (a ++ b).toArray := by
  apply ByteArray.ext
  simp
end Go.Proofs.Ytkamkjbllmgifaa

namespace Go.Proofs.Ytkamkjbllmgifaa
open Go.RowKit

def boolC (L : List Bool) : Array Value := (L.map Value.bool).toArray
theorem boolC_get (L : List Bool) (i : Nat) (h : i < L.length) : (boolC L)[i]? = some (.bool L[i]) := by simp [boolC, h]
theorem boolC_set (L : List Bool) (i : Nat) (b : Bool) : (boolC L).setIfInBounds i (.bool b) = boolC (L.set i b) := by
  apply Array.ext'
  simp [boolC, List.map_set]
theorem boolC_made (n : Nat) : madeCells #[Value.bool false] n = boolC (List.replicate n false) := by
  apply Array.ext'
  simp [toList_madeCells_one, boolC]

/-- An image: its block p, the block g of its pixels. -/
structure Img (w : World) (p g W H : Nat) (L : List Bool) : Prop where
  hdr : Blk w p 125 #[.int .i64 W, .int .i64 H, .slice (some ⟨g, 0, none⟩) (W * H) (W * H)]
  bits : Blk w g 4 (boolC L)
  len : L.length = W * H
theorem Img.ne {w : World} {p g W H : Nat} {L : List Bool} (h : Img w p g W H L) : p ≠ g := by
  rintro rfl
  have h1 := h.hdr
  have h2 := h.bits
  rw [Blk] at h1 h2
  rw [h1] at h2
  simp at h2
theorem Img.ext {w w' : World} {p g W H : Nat} {L : List Bool} (h : Img w p g W H L) (hb : Below w.heap.size w w') : Img w' p g W H L :=
  ⟨h.hdr.under hb h.hdr.lt, h.bits.under hb h.bits.lt, h.len⟩
theorem Img.drewN {w : World} {p g W H : Nat} {L : List Bool} (h : Img w p g W H L) (k : Nat) : Img (w.drewN k) p g W H L := ⟨h.hdr, h.bits, h.len⟩
theorem Img.put {w : World} {p g W H : Nat} {L : List Bool} (h : Img w p g W H L) (i : Nat) (b : Bool) : Img (w.setCell ⟨g, i, none⟩ (.bool b)) p g W H (L.set i b) :=
  ⟨h.hdr.apart (by exact h.ne) _, by have := h.bits.store i (.bool b); rwa [boolC_set] at this, by simp [h.len]⟩

/-- Whether a pixel is black. -/
def bit (L : List Bool) (W H : Nat) (x y : Int) : Bool := decide (0 ≤ x) && decide (x < W) && decide (0 ≤ y) && decide (y < H) && L.getD (y * W + x).toNat false
def hasB (W H : Nat) (x y : Int) : Bool := inB x 0 ((W : Int) - 1) && inB y 0 ((H : Int) - 1)
theorem hasB_iff {W H : Nat} {x y : Int} : hasB W H x y = true ↔ (0 ≤ x ∧ x < W) ∧ 0 ≤ y ∧ y < H := by
  simp [hasB, inB]; omega

set_option maxHeartbeats 400000 in
theorem has_any (p g W H : Nat) (L : List Bool) (x y : Int) (w : World) (h : Img w p g W H L) (hW : W ≤ 1000) (hH : H ≤ 1000) :
    Calls Try.prog 127 #[.pointer (some ⟨p, 0, none⟩), .int .i64 x, .int .i64 y] w fun e w' => e = .returned (.bool (hasB W H x y)) ∧ w = w' := by
  have c0 := h.hdr.cell 0
  have c1 := h.hdr.cell 1
  simp at c0 c1
  cases h1 : inB x 0 ((W : Int) - 1)
  · go_enter Try.func127, Try.ntmps127
    go_wp2_with (go_at_call 39; refine (in_any _ _ _ _).mono ?_; rintro e w' ⟨rfl, rfl⟩)
    go_ret
    exact ⟨ret_bool (by simp [hasB, h1]), rfl⟩
  · go_enter Try.func127, Try.ntmps127
    go_wp2_with (go_at_call 39; refine (in_any _ _ _ _).mono ?_; rintro e w' ⟨rfl, rfl⟩)
    go_ret
    exact ⟨ret_bool (by simp [hasB, h1]), rfl⟩

theorem mul_bd {y W H : Nat} (hy : y < H) (hW : W ≤ 1000) (hH : H ≤ 1000) : y * W ≤ 1000000 ∧ y * W + W ≤ W * H := by
  constructor
  · exact Nat.le_trans (Nat.mul_le_mul (show y ≤ 1000 by omega) hW) (by decide)
  · have : (y + 1) * W ≤ H * W := Nat.mul_le_mul_right _ (by omega)
    rw [Nat.mul_comm W H]
    rw [Nat.add_mul, Nat.one_mul] at this
    exact this

set_option maxHeartbeats 1000000 in
theorem get_any (p g W H : Nat) (L : List Bool) (x y : Int) (w : World) (h : Img w p g W H L) (hW : W ≤ 1000) (hH : H ≤ 1000) :
    Calls Try.prog 111 #[.pointer (some ⟨p, 0, none⟩), .int .i64 x, .int .i64 y] w fun e w' => e = .returned (.bool (bit L W H x y)) ∧ ∃ k, w' = w.drewN k := by
  have HA := Lib.hid (fun W' (hh : Img W' p g W H L) => has_any p g W H L x y W' hh hW hH)
  cases h1 : hasB W H x y
  · have F : Hid (bit L W H x y = false) := by
      have : ¬ ((0 ≤ x ∧ x < W) ∧ 0 ≤ y ∧ y < H) := by rw [← hasB_iff]; simp [h1]
      simp only [Hid, bit, Bool.and_eq_false_iff, decide_eq_false_iff_not]; omega
    rw [h1] at HA
    clear h1
    go_enter Try.func111, Try.ntmps111
    go_wp2_with fail
    go_quiet ((go_at_call 127; exact Calls.quiet_of_same ((HA.out _ (h.drewN _)).mono fun _ _ ⟨h, k⟩ => ⟨h, k.symm⟩)))
    go_wp2_with fail
    go_ret
    exact ⟨ret_bool F.out.symm, _, rfl⟩
  · obtain ⟨⟨x0, x1⟩, y0, y1⟩ := hasB_iff.1 h1
    rw [h1] at HA
    clear h1
    obtain ⟨x, rfl⟩ := Int.eq_ofNat_of_zero_le x0
    obtain ⟨y, rfl⟩ := Int.eq_ofNat_of_zero_le y0
    have hb := mul_bd (y := y) (W := W) (H := H) (by omega) hW hH
    have hi : y * W + x < L.length := by rw [h.len]; omega
    have F : Hid (bit L W H x y = L[y * W + x]) := by
      have e : ((y : Int) * W + x).toNat = y * W + x := by omega
      simp [Hid, bit, e, hi]; omega
    have c0 := h.hdr.cell 0
    have c2 := h.hdr.cell 2
    simp at c0 c2
    have c3 := (h.bits.cell (y * W + x)).trans (boolC_get L _ hi)
    generalize L[y * W + x] = b at *
    have i0 : IntKind.i64.wrap ((y : Int) * W) = ((y * W : Nat) : Int) := by rw [IntWalk.i64_in _ (by omega)]; simp
    have i1 : IntKind.i64.wrap (((y * W : Nat) : Int) + x) = ((y * W + x : Nat) : Int) := by rw [IntWalk.i64_in _ (by omega)]; simp
    have i2 : (0 : Int) ≤ ((y * W + x : Nat) : Int) := by omega
    have i3 : ((y * W + x : Nat) : Int) < ((W * H : Nat) : Int) := by have := h.len; omega
    go_enter Try.func111, Try.ntmps111
    go_wp2_with fail
    go_quiet ((go_at_call 127; exact Calls.quiet_of_same ((HA.out _ (h.drewN _)).mono fun _ _ ⟨h, k⟩ => ⟨h, k.symm⟩)))
    go_wp2_with fail
    go_ret
    exact ⟨ret_bool F.out.symm, _, rfl⟩
end Go.Proofs.Ytkamkjbllmgifaa

namespace Go.Proofs.Ytkamkjbllmgifaa
open Go.RowKit

set_option maxHeartbeats 1000000 in
theorem set_any (p g W H : Nat) (L : List Bool) (x y : Nat) (b : Bool) (w : World) (h : Img w p g W H L) (hW : W ≤ 1000) (hH : H ≤ 1000) (hx : x < W) (hy : y < H) :
    Calls Try.prog 107 #[.pointer (some ⟨p, 0, none⟩), .int .i64 x, .int .i64 y, .bool b] w fun e w' => e = .returned (.tuple #[]) ∧ (w.setCell ⟨g, y * W + x, none⟩ (.bool b)).drew = w' := by
  have hb := mul_bd (y := y) (W := W) (H := H) (by omega) hW hH
  have hi : y * W + x < L.length := by rw [h.len]; omega
  have c0 := h.hdr.cell 0
  have c2 := h.hdr.cell 2
  simp at c0 c2
  have c3 := (h.bits.cell (y * W + x)).trans (boolC_get L _ hi)
  have f3 := h.bits.free (y * W + x)
  generalize L[y * W + x] = b' at *
  have i0 : IntKind.i64.wrap ((y : Int) * W) = ((y * W : Nat) : Int) := by rw [IntWalk.i64_in _ (by omega)]; simp
  have i1 : IntKind.i64.wrap (((y * W : Nat) : Int) + x) = ((y * W + x : Nat) : Int) := by rw [IntWalk.i64_in _ (by omega)]; simp
  have i2 : (0 : Int) ≤ ((y * W + x : Nat) : Int) := by omega
  have i3 : ((y * W + x : Nat) : Int) < ((W * H : Nat) : Int) := by have := h.len; omega
  go_enter Try.func107, Try.ntmps107
  go_wp2_with fail
  go_region
  all_goals go_end0
  all_goals exact ⟨rfl, rfl⟩

theorem boolInfo : (Try.prog.info? 4).map (fun i => (i.zero, i.size, i.bytes)) = some (some (.bool false), 1, 1) := by kernel_rfl

set_option maxHeartbeats 400000 in
theorem blank_any (W H : Nat) (w : World) (hW : W ≤ 1000) (hH : H ≤ 1000) :
    Calls Try.prog 68 #[.int .i64 W, .int .i64 H] w fun e w' => e = .returned (.pointer (some ⟨w.heap.size + 1, 0, none⟩)) ∧
      (w.alloc (.cells (boolC (List.replicate (W * H) false)) 4)).alloc (.cells #[.int .i64 W, .int .i64 H, .slice (some ⟨w.heap.size, 0, none⟩) (W * H) (W * H)] 125) = w' := by
  obtain ⟨i0, hi, hz0, hz1, hz2⟩ := info_parts boolInfo
  have hb : W * H ≤ 1000000 := Nat.le_trans (Nat.mul_le_mul hW hH) (by decide)
  have hc : (W : Int) * H = ((W * H : Nat) : Int) := by simp
  have hmk : ∀ V : World, (Instr.makeSlice 123 (.int .i64 ((W : Int) * H)) (.int .i64 ((W : Int) * H))).run Try.prog V = .ok (.slice (some ⟨V.heap.size, 0, none⟩) (W * H) (W * H)) (V.alloc (.cells (boolC (List.replicate (W * H) false)) 4)) := by
    intro V
    have h := run_make (P := Try.prog) V 123 4 i0 _ Try.underlying123 hi hz0 .i64 .i64 ((W : Int) * H) ((W : Int) * H) (by omega) (Int.le_refl _) (by rw [hz2]; omega) (by omega)
    rw [h, hz1, hc, Int.toNat_natCast]
    show Result.ok _ (V.alloc (.cells (madeCells #[.bool false] (W * H * 1)) _)) = _
    rw [Nat.mul_one, boolC_made]
  have hm1 : (W : Int) * H ≤ 1000000 := by omega
  have hm0 : (0 : Int) ≤ (W : Int) * H := by omega
  clear hc hi hz0 hz1 hz2
  go_enter Try.func68, Try.ntmps68
  go_wp2_with fail
  go_ret
  exact ⟨rfl, rfl⟩

theorem blank_img (w : World) (W H : Nat) : Img ((w.alloc (.cells (boolC (List.replicate (W * H) false)) 4)).alloc (.cells #[.int .i64 W, .int .i64 H, .slice (some ⟨w.heap.size, 0, none⟩) (W * H) (W * H)] 125)) (w.heap.size + 1) w.heap.size W H (List.replicate (W * H) false) := by
  refine ⟨?_, (Blk.made _ _ _).more _, by simp⟩
  have := Blk.made (w.alloc (.cells (boolC (List.replicate (W * H) false)) 4)) 125 #[.int .i64 W, .int .i64 H, .slice (some ⟨w.heap.size, 0, none⟩) (W * H) (W * H)]
  simpa using this

set_option maxHeartbeats 1000000 in
/-- Function K has a body: a call enters it. -/
def Enters (K : FuncId) : Prop := ∀ (args : Array Value) (w : World), (callFunc K args).run Try.prog w = .ok (.enter K args) w
theorem enters_of {K : FuncId} {fn : Func} (h : Try.prog.funcs[K]? = some fn) (h1 : (fn.name == "runtime.NumGoroutine") = false) (h2 : fn.body.isNone = false) : Enters K := by
  intro args w
  have h1' : ¬ fn.name = "runtime.NumGoroutine" := by simpa using h1
  have h2' : ¬ fn.body = none := fun e => by rw [e] at h2; cases h2
  simp [callFunc, h, h1', h2']

set_option maxRecDepth 100000 in
theorem each_any (p W H : Nat) (S : Value) (K : FuncId) (caps : Array Value) (Inv : Nat → World → Prop) (w : World) (hW : W ≤ 1000) (hH : H ≤ 1000)
    (hI : ∀ k wr, Inv k wr → Blk wr p 125 #[.int .i64 W, .int .i64 H, S])
    (hF : ∀ (x y : Nat), x < W → y < H → ∀ wr, Inv (y * W + x) wr → Calls Try.prog K (#[.int .i64 x, .int .i64 y] ++ caps) wr fun e w' => e = .returned (.tuple #[]) ∧ Inv (y * W + x + 1) w')
    (h0 : Inv 0 w) (hK : Enters K) :
    Calls Try.prog 105 #[.pointer (some ⟨p, 0, none⟩), .func (.func K) #[] caps] w fun e w' => e = .returned (.tuple #[]) ∧ Inv (W * H) w' := by
  have FH := Lib.hid hF
  have IH := Lib.hid hI
  have c1 := (hI 0 w h0).cell 1
  simp at c1
  clear hF hI
  unfold Enters at hK
  go_enter Try.func105, Try.ntmps105
  go_wp2_with fail
  clear c1
  go_loopw [10] (fun i wr => ∃ y : Nat, y ≤ H ∧ i = .int .i64 y ∧ Inv (y * W) wr) (fun i _ => H - (intOf i).toNat)
  case atStart => exact ⟨0, Nat.zero_le _, rfl, by simpa using h0⟩
  case round =>
    obtain ⟨y, hy, rfl, hi⟩ := hrel
    clear h0
    by_cases hlt : y < H
    · have c0 := (IH.out _ _ hi).cell 0
      simp at c0
      obtain ⟨wo, rfl⟩ : ∃ wo : World, wo = wr := ⟨_, rfl⟩
      go_wp2_with fail
      clear c0
      go_loopw [17] (fun i wr => ∃ x : Nat, x ≤ W ∧ i = .int .i64 x ∧ Inv (y * W + x) wr) (fun i _ => W - (intOf i).toNat)
      case atStart => exact ⟨0, Nat.zero_le _, rfl, by simpa using hi⟩
      case round =>
        obtain ⟨x, hx, rfl, hi2⟩ := hrel
        by_cases hxl : x < W
        · have C := Lib.hid (FH.out x y hxl hlt wr hi2)
          go_wp2_with fail
          refine C.out.mono ?_
          rintro e w' ⟨rfl, hi3⟩
          go_wp2_with fail
          go_roundw
          case rel => exact ⟨x + 1, by omega, by go_num, hi3⟩
          case measure => simp [intOf]; omega
        · obtain rfl : x = W := by omega
          go_wp2_with fail
          go_roundw
          case rel => exact ⟨y + 1, by omega, by go_num, by rw [Nat.add_mul, Nat.one_mul]; exact hi2⟩
          case measure => simp [intOf]; omega
    · obtain rfl : y = H := by omega
      go_wp2_with fail
      go_end0
      exact ⟨rfl, by rw [Nat.mul_comm]; exact hi⟩

theorem enters_made1 : Enters 106 := enters_of Try.func106 (by kernel_rfl) (by kernel_rfl)

/-- The first k of n bits by a function, the rest white. -/
def bitsTo (b : Nat → Bool) (k n : Nat) : List Bool := (List.range n).map fun i => if i < k then b i else false
theorem bitsTo_zero (b : Nat → Bool) (n : Nat) : bitsTo b 0 n = List.replicate n false := by
  apply List.ext_getElem <;> simp [bitsTo]
theorem bitsTo_succ (b : Nat → Bool) (k n : Nat) : (bitsTo b k n).set k (b k) = bitsTo b (k + 1) n := by
  apply List.ext_getElem
  · simp [bitsTo]
  · intro i h1 h2
    simp only [List.getElem_set, bitsTo, List.getElem_map, List.getElem_range]
    by_cases e : k = i
    · subst e; simp
    · by_cases h3 : i < k
      · rw [if_neg e, if_pos h3, if_pos (by omega)]
      · rw [if_neg e, if_neg h3, if_neg (by omega)]
theorem bitsTo_all (b : Nat → Bool) (n : Nat) : bitsTo b n n = (List.range n).map b := by
  apply List.map_congr_left
  intro i hi
  rw [List.mem_range] at hi
  simp [hi]

set_option maxRecDepth 100000 in
set_option maxHeartbeats 1000000 in
theorem made1_any (p g W H m f : Nat) (L : List Bool) (K : FuncId) (caps : Array Value) (x y : Nat) (b : Bool) (w : World) (h : Img w p g W H L) (hW : W ≤ 1000) (hH : H ≤ 1000) (hx : x < W) (hy : y < H)
    (hm : Blk w m 98 #[.pointer (some ⟨p, 0, none⟩)]) (hf : Blk w f 112 #[.func (.func K) #[] caps]) (hK : Enters K)
    (hB : ∀ wr, Below w.heap.size w wr → Calls Try.prog K (#[.int .i64 x, .int .i64 y] ++ caps) wr fun e w' => e = .returned (.bool b) ∧ Below wr.heap.size wr w') :
    Calls Try.prog 106 #[.int .i64 x, .int .i64 y, .pointer (some ⟨m, 0, none⟩), .pointer (some ⟨f, 0, none⟩)] w fun e w' => e = .returned (.tuple #[]) ∧
      ∃ w1, Below w.heap.size w w1 ∧ w' = (w1.setCell ⟨g, y * W + x, none⟩ (.bool b)).drew := by
  have c0 := hm.cell 0
  have c1 := hf.cell 0
  simp at c0 c1
  have BH := Lib.hid hB
  have hgm : g ≠ m := h.bits.ne hm (by decide)
  have hgf : g ≠ f := h.bits.ne hf (by decide)
  have hmlt := hm.lt
  have hflt := hf.lt
  clear hB
  unfold Enters at hK
  go_enter Try.func106, Try.ntmps106
  go_wp2_with fail
  go_region_held3 (fun w' => w'.cell? ⟨m, 0, none⟩ = some (.pointer (some ⟨p, 0, none⟩)) ∧ w'.cell? ⟨f, 0, none⟩ = some (.func (.func K) #[] caps))
    (first | (go_split_ands; refine ⟨?_, ?_⟩ <;> exact (hb'.cell (p := ⟨_, _, none⟩) (by simpa)).trans (by assumption)) | (go_split_ands; refine ⟨?_, ?_⟩; exact cell_other hgm (by assumption); exact cell_other hgf (by assumption)) | go_keep)
    (first
      | (go_at_call 107; refine (set_any p g W H L x y b _ (h.ext (Ext.undraw hb')) hW hH hx hy).mono ?_; rintro e w' ⟨rfl, rfl⟩)
      | (refine (BH.out _ (Ext.refl _).drew).mono ?_; rintro e w' ⟨rfl, hb'⟩))
  go_end0
  exact ⟨rfl, _, Ext.undraw hb', rfl⟩
end Go.Proofs.Ytkamkjbllmgifaa

namespace Go.Proofs.Ytkamkjbllmgifaa
open Go.RowKit

/-- What a picture that is made reads as while it is being made. -/
structure MadeInv (w : World) (W H p g m f : Nat) (fv : Value) (b : Nat → Bool) (k : Nat) (wr : World) : Prop where
  img : Img wr p g W H (bitsTo b k (W * H))
  mv : Blk wr m 98 #[.pointer (some ⟨p, 0, none⟩)]
  fv : Blk wr f 112 #[fv]
  ext : Below w.heap.size w wr

theorem made_inv0 (w : World) (W H : Nat) (fv : Value) (b : Nat → Bool) :
    MadeInv w W H (w.heap.size + 1 + 1) (w.heap.size + 1) (w.heap.size + 1 + 1 + 1) w.heap.size fv b 0 ((((w.alloc (.cells #[fv] 112)).alloc
              (.cells (boolC (List.replicate (W * H) false)) 4)).alloc (.cells #[.int .i64 W, .int .i64 H, .slice (some ⟨w.heap.size + 1, 0, none⟩) (W * H) (W * H)] 125)).alloc (.cells #[.pointer (some ⟨w.heap.size + 1 + 1, 0, none⟩)] 98)) := by
  have hw := blank_img (w.alloc (.cells #[fv] 112)) W H
  simp only [World.size_alloc] at hw
  refine ⟨?_, ?_, (((Blk.made _ _ _).more _).more _).more _, Ext.more (Ext.more (Ext.more (Ext.more (Ext.refl _) _) _) _) _⟩
  · rw [bitsTo_zero]; exact ⟨hw.hdr.more _, hw.bits.more _, hw.len⟩
  · have := Blk.made (((w.alloc (.cells #[fv] 112)).alloc (.cells (boolC (List.replicate (W * H) false)) 4)).alloc (.cells #[.int .i64 W, .int .i64 H, .slice (some ⟨w.heap.size + 1, 0, none⟩) (W * H) (W * H)] 125)) 98 #[.pointer (some ⟨w.heap.size + 1 + 1, 0, none⟩)]
    simpa using this

/-- A round of made. -/
theorem made_step {w : World} {W H p g m f : Nat} {K : FuncId} {caps : Array Value} {b : Nat → Bool} (hW : W ≤ 1000) (hH : H ≤ 1000) (hK : Enters K) (hg : w.heap.size ≤ g)
    (hB : ∀ (x y : Nat), x < W → y < H → ∀ wr, Below w.heap.size w wr → Calls Try.prog K (#[.int .i64 x, .int .i64 y] ++ caps) wr fun e w' => e = .returned (.bool (b (y * W + x))) ∧ Below wr.heap.size wr w')
    (x y : Nat) (hx : x < W) (hy : y < H) (wr : World) (h : MadeInv w W H p g m f (.func (.func K) #[] caps) b (y * W + x) wr) :
    Calls Try.prog 106 (#[.int .i64 x, .int .i64 y] ++ #[.pointer (some ⟨m, 0, none⟩), .pointer (some ⟨f, 0, none⟩)]) wr fun e w' => e = .returned (.tuple #[]) ∧ MadeInv w W H p g m f (.func (.func K) #[] caps) b (y * W + x + 1) w' := by
  refine (made1_any p g W H m f _ K caps x y (b (y * W + x)) wr h.img hW hH hx hy h.mv h.fv hK (fun wr' hb => hB x y hx hy wr' (Ext.then_ h.ext hb))).mono ?_
  rintro e w' ⟨rfl, w1, hb, rfl⟩
  refine ⟨rfl, ?_, ?_, ?_, ?_⟩
  · have := (h.img.ext hb).put (y * W + x) (b (y * W + x))
    rw [bitsTo_succ] at this
    exact this.drewN 1
  · exact (h.mv.under hb h.mv.lt).apart (p := ⟨g, _, none⟩) (fun e => h.img.bits.ne h.mv (by decide) e.symm) _
  · exact (h.fv.under hb h.fv.lt).apart (p := ⟨g, _, none⟩) (fun e => h.img.bits.ne h.fv (by decide) e.symm) _
  · exact ((Ext.then_ h.ext hb).setCell (p := ⟨g, _, none⟩) hg _).drew

set_option maxRecDepth 100000 in
set_option maxHeartbeats 1000000 in
theorem made_any (W H : Nat) (K : FuncId) (caps : Array Value) (b : Nat → Bool) (w : World) (hW : W ≤ 1000) (hH : H ≤ 1000) (hK : Enters K)
    (hB : ∀ (x y : Nat), x < W → y < H → ∀ wr, Below w.heap.size w wr → Calls Try.prog K (#[.int .i64 x, .int .i64 y] ++ caps) wr fun e w' => e = .returned (.bool (b (y * W + x))) ∧ Below wr.heap.size wr w') :
    Calls Try.prog 87 #[.int .i64 W, .int .i64 H, .func (.func K) #[] caps] w fun e w' => ∃ p g, e = .returned (.pointer (some ⟨p, 0, none⟩)) ∧
      Img w' p g W H ((List.range (W * H)).map b) ∧ w.heap.size ≤ p ∧ w.heap.size ≤ g ∧ Below w.heap.size w w' := by
  have I0 := made_inv0 w W H (.func (.func K) #[] caps) b
  have E := Lib.hid (each_any (w.heap.size + 1 + 1) W H (.slice (some ⟨w.heap.size + 1, 0, none⟩) (W * H) (W * H)) 106 #[.pointer (some ⟨w.heap.size + 1 + 1 + 1, 0, none⟩), .pointer (some ⟨w.heap.size, 0, none⟩)]
    (MadeInv w W H (w.heap.size + 1 + 1) (w.heap.size + 1) (w.heap.size + 1 + 1 + 1) w.heap.size (.func (.func K) #[] caps) b) _ hW hH (fun _ _ h => h.img.hdr) (fun x y hx hy wr h => made_step hW hH hK (by omega) hB x y hx hy wr h) I0 enters_made1)
  clear hB hK I0
  have hmf : ∀ (fn : Fn) (first cap : Array Value) (w : World), (Instr.makeFunc fn first cap).run Try.prog w = .ok (.func fn first cap) w := fun _ _ _ _ => rfl
  go_enter Try.func87, Try.ntmps87
  go_wp2_with fail
  refine (blank_any W H _ hW hH).mono ?_
  rintro e w' ⟨rfl, rfl⟩
  go_wp2_with fail
  refine E.out.mono ?_
  rintro e w' ⟨rfl, hI⟩
  have c0 := hI.mv.cell 0
  simp at c0
  have R := Lib.hid hI
  clear hI E
  go_wp2_with fail
  go_ret
  refine ⟨_, w.heap.size + 1, rfl, ?_, by omega, by omega, R.out.ext⟩
  have := R.out.img
  rwa [bitsTo_all] at this
end Go.Proofs.Ytkamkjbllmgifaa

namespace Go.Proofs.Ytkamkjbllmgifaa
open Go.RowKit

def strs (l : List ByteArray) : List Value := l.map Value.string
/-- The bytes of a row, the first k of them. -/
def rowB (L : List Bool) (W y k : Nat) : List UInt8 := (List.range k).map fun x => if L.getD (y * W + x) false then 35 else 46
theorem rowB_succ (L : List Bool) (W y k : Nat) : rowB L W y (k + 1) = rowB L W y k ++ [if L.getD (y * W + k) false then 35 else 46] := by simp [rowB, List.range_succ]
theorem rowB_length (L : List Bool) (W y k : Nat) : (rowB L W y k).length = k := by simp [rowB]
def rowS (L : List Bool) (W y : Nat) : ByteArray := ⟨(rowB L W y W).toArray⟩
def rowsTo (L : List Bool) (W k : Nat) : List ByteArray := (List.range k).map (rowS L W)
theorem rowsTo_succ (L : List Bool) (W k : Nat) : rowsTo L W (k + 1) = rowsTo L W k ++ [rowS L W k] := by simp [rowsTo, List.range_succ]
theorem rowsTo_length (L : List Bool) (W k : Nat) : (rowsTo L W k).length = k := by simp [rowsTo]

theorem bit_in {L : List Bool} {W H x y : Nat} (hx : x < W) (hy : y < H) : bit L W H x y = L.getD (y * W + x) false := by
  have e : ((y : Int) * W + x).toNat = y * W + x := by
    rw [← Int.natCast_mul]; omega
  simp [bit, e, hx, hy]

end Go.Proofs.Ytkamkjbllmgifaa

namespace Go.Proofs.Ytkamkjbllmgifaa
open Go.RowKit

theorem Addr.add_block' (a : Addr) (i : Nat) : (a.add i).block = a.block := by
  unfold Addr.add; split <;> rfl
/-- A slice value's address reads as a list of one-cell values, wherever it points. -/
def RdA (w : World) (A : Option Addr) (xs : List Value) : Prop :=
  0 < xs.length → ∃ a, A = some a ∧ a.block < w.heap.size ∧ ∀ i (h : i < xs.length), w.cell? (a.add i) = some xs[i]
theorem RdA.ext {w w' : World} {A : Option Addr} {xs : List Value} (h : RdA w A xs) (hb : Below w.heap.size w w') : RdA w' A xs := by
  intro hn
  obtain ⟨a, e, ha, hc⟩ := h hn
  exact ⟨a, e, Nat.lt_of_lt_of_le ha hb.size, fun i hi => (hb.cell (by rw [Addr.add_block']; exact ha)).trans (hc i hi)⟩

theorem RdA.str {w : World} {A : Option Addr} {rows : List ByteArray} (h : RdA w A (strs rows)) : 0 < rows.length → ∃ a, A = some a ∧ a.block < w.heap.size ∧ ∀ i (h : i < rows.length), w.cell? (a.add i) = some (.string rows[i]) := by
  intro hn
  obtain ⟨a, e, ha, hc⟩ := h (by simpa [strs] using hn)
  exact ⟨a, e, ha, fun i hi => by rw [hc i (by simpa [strs] using hi)]; simp [strs]⟩
theorem Rd.str {w : World} {A : Option Addr} {rows : List ByteArray} (h : Rd w A (strs rows)) : 0 < rows.length → ∃ g, A = some ⟨g, 0, none⟩ ∧ g < w.heap.size ∧ ∀ i (h : i < rows.length), w.cell? ⟨g, i, none⟩ = some (.string rows[i]) := by
  intro hn
  obtain ⟨a, e, ha, hc⟩ := h (by simpa [strs] using hn)
  exact ⟨a, e, ha, fun i hi => by rw [hc i (by simpa [strs] using hi)]; simp [strs]⟩

theorem strInfo : (Try.prog.info? 9).map (fun i => (i.zero, i.size, i.bytes)) = some (some (.string ByteArray.empty), 1, 16) := by kernel_rfl
theorem own_made (w : World) (e : TypeId) (z : Value) (n : Nat) (hn : n ≤ maxLen) : (w.alloc (.cells (madeCells #[z] n) e)).ownsRow w.heap.size e 1 (.slice (some ⟨w.heap.size, 0, none⟩) n n) n (List.replicate n z) := by
  refine ⟨by simp, .inr ⟨w.heap.size, n, madeCells #[z] n, rfl, Nat.le_refl _, heap_alloc_new _ _, Nat.le_refl _, hn, ?_, ?_⟩⟩
  · rw [← Array.length_toList, toList_madeCells_one]; simp
  · rw [toList_madeCells_one]; simp
/-- The first k of a list, the rest as made. -/
def cpTo (z : Value) (xs : List Value) (k : Nat) : List Value := xs.take k ++ List.replicate (xs.length - k) z
theorem cpTo_zero (z : Value) (xs : List Value) : cpTo z xs 0 = List.replicate xs.length z := by simp [cpTo]
theorem cpTo_all (z : Value) (xs : List Value) : cpTo z xs xs.length = xs := by simp [cpTo]
theorem cpTo_length (z : Value) (xs : List Value) (k : Nat) (h : k ≤ xs.length) : (cpTo z xs k).length = xs.length := by simp [cpTo]; omega
theorem cpTo_succ (z : Value) (xs : List Value) (k : Nat) (hk : k < xs.length) : (cpTo z xs k).set k xs[k] = cpTo z xs (k + 1) := by
  have hm : (xs.take k).length = k := by simp; omega
  unfold cpTo
  rw [List.set_append_right _ _ (by omega), hm, Nat.sub_self, show xs.length - k = (xs.length - (k + 1)) + 1 by omega, List.replicate_succ, List.set_cons_zero]
  rw [show xs.take (k + 1) = xs.take k ++ [xs[k]] by rw [List.take_add_one, List.getElem?_eq_getElem hk]; rfl, List.append_assoc]
  rfl

end Go.Proofs.Ytkamkjbllmgifaa

namespace Go.Proofs.Ytkamkjbllmgifaa
open Go.RowKit

/-- A number's digits. -/
def digs (k : Nat) : List UInt8 := if _h : k = 0 then [] else digs (k / 10) ++ [UInt8.ofNat (48 + k % 10)]
termination_by k
decreasing_by omega
theorem digs_zero : digs 0 = [] := by rw [digs]; simp
theorem digs_pos {k : Nat} (h : k ≠ 0) : digs k = digs (k / 10) ++ [UInt8.ofNat (48 + k % 10)] := by rw [digs]; simp [h]
def markS (k : Nat) : ByteArray := ⟨(109 :: digs k).toArray⟩
theorem digs_length (k : Nat) : (digs k).length ≤ k := by
  induction k using Nat.strongRecOn with
  | _ k ih =>
    by_cases h : k = 0
    · subst h; rw [digs_zero]; simp
    · rw [digs_pos h]
      have := ih (k / 10) (by omega)
      simp; omega
theorem digU (k : Nat) : ((UInt8.ofNat (48 + k % 10)).toNat : Int) = 48 + (k : Int) % 10 := by
  have : (UInt8.ofNat (48 + k % 10)).toNat = 48 + k % 10 := by
    rw [UInt8.toNat_ofNat']; omega
  rw [this]; omega

/-- The marks k, k + 1, .. as texts. -/
def markSs (k n : Nat) : List ByteArray := (List.range n).map fun i => markS (k + i)
theorem markSs_length (k n : Nat) : (markSs k n).length = n := by simp [markSs]
theorem markSs_succ (k n : Nat) : markSs k (n + 1) = markSs k n ++ [markS (k + n)] := by simp [markSs, List.range_succ]
theorem markSs_set (k0 k : Nat) (rows : List ByteArray) (hk : k < rows.length) : (strs (markSs k0 k ++ rows.drop k)).set k (.string (markS (k0 + k))) = strs (markSs k0 (k + 1) ++ rows.drop (k + 1)) := by
  have hd : rows.drop k = rows[k] :: rows.drop (k + 1) := List.drop_eq_getElem_cons hk
  rw [markSs_succ, hd]
  have hm : (List.map Value.string (markSs k0 k)).length = k := by simp [markSs_length]
  simp only [strs, List.map_append, List.map_cons, List.append_assoc, List.cons_append, List.nil_append]
  rw [List.set_append_right _ _ (by omega), hm, Nat.sub_self, List.set_cons_zero]
theorem markSs_full (k0 : Nat) (rows : List ByteArray) : strs (markSs k0 rows.length ++ rows.drop rows.length) = strs (markSs k0 rows.length) := by simp
theorem Chg.ext {S : Nat → Prop} {a b c : World} (h : Chg S a b) (k : Below b.heap.size b c) : Chg S a c :=
  ⟨k.os.trans h.os, k.tape.trans h.tape, k.output.trans h.output, Nat.le_trans h.size k.size, fun j hj hs => (k.block j (Nat.lt_of_lt_of_le hj h.size)).trans (h.block j hj hs)⟩

end Go.Proofs.Ytkamkjbllmgifaa

namespace Go.Proofs.Ytkamkjbllmgifaa
open Go.RowKit

theorem Chg.blk {S : Nat → Prop} {w w' : World} {g : Nat} {t : TypeId} {cs : Array Value} (h : Chg S w w') (hB : Blk w g t cs) (hs : ¬ S g) : Blk w' g t cs := (h.block g hB.lt hs).trans hB
theorem Chg.rd {w w' : World} {base : Nat} {e : TypeId} {A A' : Option Addr} {n c : Nat} {xs : List Value} (h : Chg (fun b => ∃ a, A' = some a ∧ b = a.block) w w') (ho : w.ownsRow base e 1 (.slice A n c) n xs) (hne : ∀ a a', A = some a → A' = some a' → a.block ≠ a'.block) : w'.ownsRow base e 1 (.slice A n c) n xs :=
  h.own ho (fun g hg => by
    cases A with
    | none => simp [Value.ownBlock] at hg
    | some a =>
      simp [Value.ownBlock] at hg
      rintro ⟨a', e, hb⟩
      exact hne a a' rfl e (hg.trans hb))

end Go.Proofs.Ytkamkjbllmgifaa
