/- Images: grid. -/
import Derived.Test.YtkamkjbllmgifaaMatP
import Derived.Test.YtkamkjbllmgifaaPicL
namespace Go.Proofs.Ytkamkjbllmgifaa
open Go.RowKit

def rowI (f : Nat → Nat → Int) (y k : Nat) : List Int := (List.range k).map fun x => f x y
theorem rowI_succ (f : Nat → Nat → Int) (y k : Nat) : rowI f y (k + 1) = rowI f y k ++ [f k y] := by simp [rowI, List.range_succ]
theorem rowI_length (f : Nat → Nat → Int) (y k : Nat) : (rowI f y k).length = k := by simp [rowI]
def gridI (f : Nat → Nat → Int) (W k : Nat) : List (List Int) := (List.range k).map fun y => rowI f y W
theorem gridI_succ (f : Nat → Nat → Int) (W k : Nat) : gridI f W (k + 1) = gridI f W k ++ [rowI f k W] := by simp [gridI, List.range_succ]
theorem gridI_length (f : Nat → Nat → Int) (W k : Nat) : (gridI f W k).length = k := by simp [gridI]
set_option maxRecDepth 100000 in
set_option maxHeartbeats 1000000 in
theorem grid_any (p W H : Nat) (S : Value) (K : FuncId) (caps : Array Value) (f : Nat → Nat → Int) (w : World) (hp : Blk w p 125 #[.int .i64 W, .int .i64 H, S]) (hW : W ≤ 1000) (hH : H ≤ 1000) (hK : Enters K)
    (hF : ∀ (x y : Nat), x < W → y < H → ∀ wr, Below w.heap.size w wr → Calls Try.prog K (#[.int .i64 x, .int .i64 y] ++ caps) wr fun e w' => e = .returned (.int .i64 (f x y)) ∧ Below wr.heap.size wr w') :
    Calls Try.prog 69 #[.pointer (some ⟨p, 0, none⟩), .func (.func K) #[] caps] w fun e w' => ∃ A c vs, e = .returned (.slice A H c) ∧ MatAt w' w.heap.size w'.heap.size A c vs (gridI f W H) ∧ Below w.heap.size w w' := by
  have FH := Lib.hid hF
  have c1 := hp.cell 1
  simp at c1
  have PH := Lib.hid hp
  have hplt := hp.lt
  have hrow0 := World.ownsRow_lit (e := 34) (size := 1) w #[] 0 (Nat.le_refl _) (by decide) rfl
  have M0 : MatAt (w.alloc (.cells #[] 34)) w.heap.size (w.alloc (.cells #[] 34)).heap.size (some ⟨w.heap.size, 0, none⟩) 0 [] (gridI f W 0) := MatAt.nil _ _ _ _ _ hrow0 (fun a ha => by cases ha; simp)
  have B0 : Below w.heap.size w (w.alloc (.cells #[] 34)) := Ext.more (Ext.refl _) _
  clear hF hp hrow0
  unfold Enters at hK
  go_enter Try.func69, Try.ntmps69
  go_wp2_with fail
  clear c1
  generalize w.alloc (.cells #[] 34) = w0 at *
  go_loopw [5, 14] (fun o i wr => ∃ (y c : Nat) (A : Option Addr) (vs : List Value), y ≤ H ∧ i = .int .i64 y ∧ o = .slice A y c ∧ MatAt wr w.heap.size wr.heap.size A c vs (gridI f W y) ∧ Below w.heap.size w wr) (fun _ i _ => H - (intOf i).toNat)
  case atStart => exact ⟨0, _, _, _, Nat.zero_le _, rfl, rfl, M0, B0⟩
  case round =>
    obtain ⟨y, c, A, vs, hy, rfl, rfl, hm, hb⟩ := hrel
    clear M0 B0
    have MM := Lib.hid hm
    clear hm
    by_cases hlt : y < H
    · have c0 := (PH.out.under hb hplt).cell 0
      simp at c0
      obtain ⟨wo, rfl⟩ : ∃ wo : World, wo = wr := ⟨_, rfl⟩
      have hrow0 := World.ownsRow_lit (e := 2) (size := 1) wo #[] 0 (Nat.le_refl _) (by decide) rfl
      have i1 : (y : Int) < (H : Int) := by omega
      have hpz : p < wo.heap.size := (PH.out.under hb hplt).lt
      go_wp2_with fail
      clear c0
      go_loopw [7, 22] (fun v i wr => ∃ (x gb cb : Nat), x ≤ W ∧ i = .int .i64 x ∧ v = .slice (some ⟨gb, 0, none⟩) x cb ∧ wr.ownsRow wo.heap.size 2 1 (.slice (some ⟨gb, 0, none⟩) x cb) x (ints (rowI f y x)) ∧ Below wo.heap.size wo wr) (fun _ i _ => W - (intOf i).toNat)
      case atStart => exact ⟨0, _, 0, Nat.zero_le _, rfl, rfl, hrow0, Ext.more (Ext.refl _) _⟩
      case round =>
        obtain ⟨x, gb, cb, hx, rfl, rfl, hrow, hb2⟩ := hrel
        clear hrow0
        by_cases hxl : x < W
        · have C := Lib.hid (FH.out x y hxl hlt wr (Ext.then_ hb hb2))
          have RB := Lib.hid (rowI_succ f y x)
          have hsz := hb2.size
          obtain ⟨v, hv⟩ : ∃ v, f x y = v := ⟨_, rfl⟩
          rw [hv] at C RB
          go_wp2_with fail
          refine C.out.mono ?_
          rintro e w2 ⟨rfl, hb3⟩
          have hrow2 := own_ext hb3 hrow
          have hsz2 := hb3.size
          go_wp2_with (at_builtin; refine wpList_app intT (by rfl) _ _ (by rfl) wo.heap.size (.slice (some ⟨gb, 0, none⟩) x cb) x (ints (rowI f y x)) (by rfl) (hrow2.alloc _) w2.heap.size #[.int .i64 v] (by rfl) (heap_alloc_new _ _) rfl (by simp [Value.oneCell']) (by omega) (by simp; omega) ?_; intro g3 cap3 w3 hown3 hgrow3 hat3 hlt3)
          go_roundw
          case rel =>
            refine ⟨x + 1, g3, cap3, by omega, by go_num, rfl, ?_, ?_⟩
            · rw [RB.out]; simpa [ints] using hown3
            · exact (Ext.more (Ext.then_ hb2 hb3) _).grown hgrow3 (by simp; omega) (by intro z hz; have := (hrow.lt gb rfl).1; simp [Value.ownBlock] at hz; omega)
          case measure => simp [intOf]; omega
        · obtain rfl : x = W := by omega
          have hm2 := MM.out.ext hb2
          have hsz := hb2.size
          have hlo := (MM.out.outer).1
          have hwz := hb.size
          have GS := Lib.hid (gridI_succ f x y)
          have RL := Lib.hid (rowI_length f y x)
          have GL := Lib.hid (gridI_length f x y)
          have hou := hm2.outer
          rw [GL.out] at hou
          go_wp2_with (at_builtin; refine wpList_app rowT (by rfl) _ _ (by rfl) w.heap.size (.slice A y c) y vs (by rfl) (hou.alloc _) wr.heap.size #[.slice (some ⟨gb, 0, none⟩) x cb] (by rfl) (heap_alloc_new _ _) rfl (by simp [Value.oneCell']) (by omega) (by simp; omega) ?_; intro g3 cap3 w3 hown3 hgrow3 hat3 hlt3)
          have PU : MatAt w3 w.heap.size w3.heap.size (some ⟨g3, 0, none⟩) cap3 (vs ++ [.slice (some ⟨gb, 0, none⟩) (rowI f y x).length cb]) (gridI f x y ++ [rowI f y x]) :=
            MatAt.push MM.out hb2 (by rw [RL.out]; exact hrow) hwz (Nat.le_refl _) (by rw [GL.out]; exact hgrow3) (by rw [GL.out, RL.out]; simpa using hown3)
          go_roundw
          case rel =>
            refine ⟨y + 1, cap3, some ⟨g3, 0, none⟩, _, by omega, by go_num, rfl, by rw [GS.out]; exact PU, ?_⟩
            exact ((hb.trans (hb2.mono hwz)).alloc (by omega) _).grown hgrow3 (by simp; omega) (fun z hz => (hou.lt z hz).1)
          case measure => simp [intOf]; omega
    · obtain rfl : y = H := by omega
      go_wp2_with fail
      go_ret
      exact ⟨A, c, vs, rfl, MM.out, hb⟩
end Go.Proofs.Ytkamkjbllmgifaa
