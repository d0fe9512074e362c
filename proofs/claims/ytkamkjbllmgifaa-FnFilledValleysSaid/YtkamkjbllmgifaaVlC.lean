/- Valleys: few pointers sorted by slices.SortFunc; the place of a pixel. -/
import Derived.Test.YtkamkjbllmgifaaVlB
import Derived.Test.YtkamkjbllmgifaaShelf
namespace Go.Proofs.Ytkamkjbllmgifaa
open Go.RowKit

set_option maxRecDepth 100000 in
set_option maxHeartbeats 1000000 in
theorem pdqP_any {K : FuncId} {caps : Array Value} {Inv : World → Prop} {El : Nat → Prop} {cm : Nat → Nat → Int} {key pl : Nat → Int} (vl : Nat → Nat) (g n c : Nat) (l : Int) (d : Nat → Nat) (w : World) (ck : CmpP g vl K caps Inv El cm key) (h : PtF w g n vl d) (hI : Inv w) (hE : ∀ i, i < n → El (d i)) (hA : Stb.Asc pl 0 n d) (hn : n ≤ 12) :
    Calls Try.prog 100 #[.slice (some ⟨g, 0, none⟩) n c, .int .i64 0, .int .i64 n, .int .i64 l, .func (.func K) #[] caps] w fun e' w' => e' = .returned (.tuple #[]) ∧ (∃ d', PtF w' g n vl d' ∧ Stb.Mv 0 n d d' ∧ Stb.Srt key pl 0 n d') ∧ Only g w w' := by
  have I := Lib.hid (insertionP_any vl g n c d 0 n w ck h hI hE hA (Nat.zero_le _) (Nat.le_refl _) (by omega))
  have w0 : IntKind.i64.wrap (n : Int) = (n : Int) := by rw [IntWalk.i64_in _ (by omega)]
  have w1 : IntKind.i64.wrap ((n : Int) - 0) = (n : Int) := by rw [IntWalk.i64_in _ (by omega)]; omega
  have t0 : (n : Int) ≤ 12 := by omega
  clear ck h hI hE hA
  go_enter Try.func100, Try.ntmps100
  go_wp2_with fail
  go_loopw [1, 2, 3, 10, 11, 12, 13, 14] (fun a b x _ _ _ _ _ wr => a = .int .i64 0 ∧ b = .int .i64 n ∧ x = .int .i64 l ∧ w = wr) (fun _ _ _ _ _ _ _ _ _ => 0)
  case atStart => exact ⟨rfl, rfl, rfl, rfl⟩
  case round =>
    obtain ⟨rfl, rfl, rfl, rfl⟩ := hrel
    go_wp2_with (go_at_call 116; refine I.out.mono ?_; rintro e' w2 ⟨rfl, h2, hC2⟩)
    refine bodyPost_ret (v := .tuple #[]) (by simp [results, Try.results100, go_sem]) rfl ⟨rfl, h2, hC2⟩
set_option maxHeartbeats 1000000 in
theorem sortP_any {K : FuncId} {caps : Array Value} {Inv : World → Prop} {El : Nat → Prop} {cm : Nat → Nat → Int} {key pl : Nat → Int} (vl : Nat → Nat) (g n c : Nat) (d : Nat → Nat) (w : World) (ck : CmpP g vl K caps Inv El cm key) (h : PtF w g n vl d) (hI : Inv w) (hE : ∀ i, i < n → El (d i)) (hA : Stb.Asc pl 0 n d) (hn : n ≤ 12) :
    Calls Try.prog 77 #[.slice (some ⟨g, 0, none⟩) n c, .func (.func K) #[] caps] w fun e' w' => e' = .returned (.tuple #[]) ∧ (∃ d', PtF w' g n vl d' ∧ Stb.Mv 0 n d d' ∧ Stb.Srt key pl 0 n d') ∧ Only g w w' := by
  have I := Lib.hid (fun l => pdqP_any vl g n c l d w ck h hI hE hA hn)
  have LB := Lib.hid (fun V => Try.bits_Len (n : Int) V (by omega) (by omega))
  have wu : IntKind.u64.wrap (n : Int) = (n : Int) := by rw [IntKind.wrap_u64]; omega
  clear ck h hI hE hA
  go_enter Try.func77, Try.ntmps77
  go_wp2_with (first
    | (go_at_call 101; refine (LB.out _).mono ?_; rintro e' w2 ⟨rfl, rfl⟩)
    | (go_at_call 100; refine (I.out _).mono ?_; rintro e' w2 ⟨rfl, h2, hC2⟩))
  go_end0
  exact ⟨rfl, h2, hC2⟩
set_option maxHeartbeats 1000000 in
theorem place_any (p : Nat) (A : Option Addr) (c : Nat) (rows : List (List Int)) (x y : Nat) (w : World) (h : GreyAt w p A c rows) (hn : 0 < rows.length) (hW : tabW rows ≤ 16) (hx : x ≤ 1000) (hy : y ≤ 1000) :
    Calls Try.prog 76 #[.pointer (some ⟨p, 0, none⟩), .agg #[.int .i64 x, .int .i64 y]] w fun e w' => e = .returned (.int .i64 ((y * tabW rows + x : Nat) : Int)) ∧ Below w.heap.size w w' := by
  obtain ⟨wB, hwB⟩ : ∃ wB, w.alloc (.cells #[.int .i64 x, .int .i64 y] 39) = wB := ⟨_, rfl⟩
  have T1 : Blk wB w.heap.size 39 #[.int .i64 x, .int .i64 y] := by rw [← hwB]; exact Blk.made w _ _
  have B1 : Below w.heap.size w wB := by rw [← hwB]; exact Ext.more (Ext.refl _) _
  have z2 : wB.heap.size = w.heap.size + 1 := by rw [← hwB]; simp
  have SZ := Lib.hid (sizes_any p A c rows _ (h.ext B1) hn)
  have k1 := T1.cell 0
  have k2 := T1.cell 1
  simp at k1 k2
  have HW := Lib.hid hwB
  have HB := Lib.hid B1
  have ym : (y : Int) * (tabW rows : Int) ≤ 16000 := by
    have h1 : y * tabW rows ≤ 1000 * 16 := Nat.mul_le_mul hy hW
    have e2 : (y : Int) * (tabW rows : Int) = ((y * tabW rows : Nat) : Int) := by simp
    rw [e2]; omega
  have y0 : (0 : Int) ≤ (y : Int) * (tabW rows : Int) := Int.mul_nonneg (by omega) (by omega)
  have w1 : IntKind.i64.wrap ((y : Int) * (tabW rows : Int)) = (y : Int) * (tabW rows : Int) := by rw [IntWalk.i64_in _ (by omega)]
  have w2 : IntKind.i64.wrap ((y : Int) * (tabW rows : Int) + (x : Int)) = ((y * tabW rows + x : Nat) : Int) := by rw [IntWalk.i64_in _ (by omega)]; simp
  clear h T1 B1 z2 hwB hn hW
  generalize tabW rows = W at *
  go_enter Try.func76, Try.ntmps76
  go_wp2_with fail
  try simp only [HW.out]
  refine SZ.out.mono ?_
  rintro e w2 ⟨rfl, n, rfl⟩
  replace k1 := cell_drewN (n := n) k1
  replace k2 := cell_drewN (n := n) k2
  go_wp2_with fail
  go_ret
  exact ⟨by simp, Ext.drawN HB.out _⟩
end Go.Proofs.Ytkamkjbllmgifaa
