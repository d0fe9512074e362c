/- The grey picture of a picture: the reference's. -/
import Derived.Test.YtdbelajgndclfaaGreyP
import Derived.Test.YtdbelajgndclfaaSIs
namespace Go.Proofs.Ytdbelajgndclfaa
open Go.RowKit

/-- A cell of a block of another type has turned. -/
theorem MatAt.beside {w : World} {lo hi : Nat} {A : Option Addr} {c : Nat} {vs : List Value} {rows : List (List Int)} (h : MatAt w lo hi A c vs rows) {g : Nat} {t : TypeId} {cs : Array Value} (hB : Blk w g t cs) (h1 : 55 ≠ t) (h2 : 2 ≠ t) (i : Nat) (u : Value) : MatAt (w.setCell ⟨g, i, none⟩ u) lo hi A c vs rows := by
  have one : ∀ {e : TypeId} {v : Value} {n : Nat} {xs : List Value}, e ≠ t → w.ownsRow lo e 1 v n xs → (w.setCell ⟨g, i, none⟩ u).ownsRow lo e 1 v n xs := by
    intro e v n xs he ho
    exact ((Chg.refl (fun b => b = g) w).store (p := ⟨g, i, none⟩) rfl u).own ho (fun b hb e2 => own_blk_ne ho hB he (by rw [hb, e2]))
  refine ⟨one h1 h.outer, h.top, fun j hj => ?_, h.apart⟩
  obtain ⟨Ai, ci, a1, a2, a3⟩ := h.row j hj
  exact ⟨Ai, ci, a1, one h2 a2, a3⟩

theorem gf_get {L : List Bool} {W H x y : Nat} : gf L W H x y = if bit L W H x y then 0 else 99 := rfl

set_option maxRecDepth 100000 in
set_option maxHeartbeats 1000000 in
theorem greyS_any (p : Nat) (A0 : Option Addr) (c0 : Nat) (rows : List ByteArray) (w : World) (h : PicAt w p A0 c0 rows) (hok : picOk rows = true) :
    Calls Try.prog 70 #[.pointer (some ⟨p, 0, none⟩)] w fun e w' => ∃ A c vs, e = .returned (.agg #[.slice A rows.length c]) ∧ MatAt w' w.heap.size w'.heap.size A c vs (greyOf rows) ∧ Below w.heap.size w w' := by
  obtain ⟨s1, s2, s3, s4⟩ := picOk_sizes hok
  unfold greyOf
  have BH := Lib.hid (fun x y V (hV : PicAt V p A0 c0 rows) => black_any p A0 c0 rows x y V hV hok)
  have WH := Lib.hid (fun V (hV : PicAt V p A0 c0 rows) => width_any p A0 c0 rows V hV s1)
  have HH := Lib.hid (fun V (hV : PicAt V p A0 c0 rows) => height_any p A0 c0 rows V hV)
  have PH := Lib.hid (fun V (hb : Below w.heap.size w V) => h.ext hb)
  clear h hok
  generalize rows.length = H at *
  generalize picW rows = W at *
  generalize picBits rows = L at *
  have hrow0 := World.ownsRow_lit (e := 55) (size := 1) (w.alloc (.cells #[.slice none 0 0] 39)) #[] 0 (Nat.le_refl _) (by decide) rfl
  simp only [World.size_alloc] at hrow0
  have T0 : Blk (((w.alloc (.cells #[.slice none 0 0] 39)).alloc (.cells #[] 55)).alloc (.cells #[.slice (some ⟨w.heap.size + 1, 0, none⟩) 0 0] 39)) w.heap.size 39 #[.slice none 0 0] := ((Blk.made _ _ _).more _).more _
  have T1 : Blk (((w.alloc (.cells #[.slice none 0 0] 39)).alloc (.cells #[] 55)).alloc (.cells #[.slice (some ⟨w.heap.size + 1, 0, none⟩) 0 0] 39)) (w.heap.size + 2) 39 #[.slice (some ⟨w.heap.size + 1, 0, none⟩) 0 0] := by
    have := Blk.made ((w.alloc (.cells #[.slice none 0 0] 39)).alloc (.cells #[] 55)) 39 #[.slice (some ⟨w.heap.size + 1, 0, none⟩) 0 0]
    simpa using this
  have B0 : Below w.heap.size w (((w.alloc (.cells #[.slice none 0 0] 39)).alloc (.cells #[] 55)).alloc (.cells #[.slice (some ⟨w.heap.size + 1, 0, none⟩) 0 0] 39)) := Ext.more (Ext.more (Ext.more (Ext.refl _) _) _) _
  have M0 := MatAt.nil _ (w.heap.size + 1) (((w.alloc (.cells #[.slice none 0 0] 39)).alloc (.cells #[] 55)).alloc (.cells #[.slice (some ⟨w.heap.size + 1, 0, none⟩) 0 0] 39)).heap.size _ _ (hrow0.alloc (.cells #[.slice (some ⟨w.heap.size + 1, 0, none⟩) 0 0] 39)) (fun a ha => by cases ha; simp)
  clear hrow0
  go_enter Try.func70, Try.ntmps70
  go_wp2_with fail
  generalize ((w.alloc (.cells #[.slice none 0 0] 39)).alloc (.cells #[] 55)).alloc (.cells #[.slice (some ⟨w.heap.size + 1, 0, none⟩) 0 0] 39) = w0 at *
  obtain ⟨R, hR⟩ : ∃ R, w.heap.size = R := ⟨_, rfl⟩
  rw [hR] at PH T0 T1 B0 M0 ⊢
  have HR := Lib.hid hR
  clear hR
  go_loopw [4] (fun i wr => ∃ (y c : Nat) (A : Option Addr) (vs : List Value), y ≤ H ∧ i = .int .i64 y ∧ Blk wr R 39 #[.slice none 0 0] ∧ Blk wr (R + 2) 39 #[.slice A y c] ∧ MatAt wr (R + 1) wr.heap.size A c vs (gridI (gf L W H) W y) ∧ Below R w wr) (fun i _ => H - (intOf i).toNat)
  case atStart => exact ⟨0, _, _, _, Nat.zero_le _, rfl, T0, T1, M0, B0⟩
  case round =>
    obtain ⟨y, c, A, vs, hy, rfl, hB0, hB1, hm, hb⟩ := hrel
    clear M0 B0 T0 T1
    have MM := Lib.hid hm
    have H1 := Lib.hid (HH.out _ (PH.out _ hb))
    clear hm
    by_cases hlt : y < H
    · obtain ⟨wo, rfl⟩ : ∃ wo : World, wo = wr := ⟨_, rfl⟩
      have hrow0 := World.ownsRow_lit (e := 2) (size := 1) wo #[] 0 (Nat.le_refl _) (by decide) rfl
      have hRz := hB1.lt
      go_wp2_with (go_at_call 89; refine H1.out.mono ?_; rintro e w' ⟨rfl, rfl⟩)
      go_loopw [5, 6] (fun v i wr => ∃ (x gb cb : Nat), x ≤ W ∧ i = .int .i64 x ∧ v = .slice (some ⟨gb, 0, none⟩) x cb ∧ wr.ownsRow wo.heap.size 2 1 (.slice (some ⟨gb, 0, none⟩) x cb) x (ints (rowI (gf L W H) y x)) ∧ Below wo.heap.size wo wr) (fun _ i _ => W - (intOf i).toNat)
      case atStart => exact ⟨0, _, 0, Nat.zero_le _, rfl, rfl, hrow0, Ext.more (Ext.refl _) _⟩
      case round =>
        obtain ⟨x, gb, cb, hx, rfl, rfl, hrow, hb2⟩ := hrel
        clear hrow0
        have W1 := Lib.hid (WH.out _ (PH.out _ (hb.trans (hb2.mono (by omega)))))
        by_cases hxl : x < W
        · have P1 := Lib.hid (BH.out x y _ (PH.out _ (hb.trans (hb2.mono (by omega)))))
          have RB := Lib.hid (rowI_succ (gf L W H) y x)
          have GG := Lib.hid (gf_get (L := L) (W := W) (H := H) (x := x) (y := y))
          have hsz := hb2.size
          cases hbt : bit L W H (x : Int) (y : Int)
          · rw [hbt] at P1 GG
            go_wp2_with (first
              | (go_at_call 88; refine W1.out.mono ?_; rintro e w' ⟨rfl, rfl⟩)
              | (go_at_call 126; refine P1.out.mono ?_; rintro e w' ⟨rfl, rfl⟩)
              | (at_builtin; refine wpList_app intT (by rfl) _ _ (by rfl) wo.heap.size (.slice (some ⟨gb, 0, none⟩) x cb) x (ints (rowI (gf L W H) y x)) (by rfl) (hrow.alloc _) wr.heap.size #[.int .i64 99] (by rfl) (heap_alloc_new _ _) rfl (by simp [Value.oneCell']) (by omega) (by simp; omega) ?_; intro g3 cap3 w3 hown3 hgrow3 hat3 hlt3))
            go_roundw
            case rel =>
              refine ⟨x + 1, g3, cap3, by omega, by go_num, rfl, ?_, ?_⟩
              · rw [RB.out, GG.out]; simpa [ints] using hown3
              · exact (Ext.more hb2 _).grown hgrow3 (by simp; omega) (by intro z hz; have := (hrow.lt gb rfl).1; simp [Value.ownBlock] at hz; omega)
            case measure => simp [intOf]; omega
          · rw [hbt] at P1 GG
            go_wp2_with (first
              | (go_at_call 88; refine W1.out.mono ?_; rintro e w' ⟨rfl, rfl⟩)
              | (go_at_call 126; refine P1.out.mono ?_; rintro e w' ⟨rfl, rfl⟩)
              | (at_builtin; refine wpList_app intT (by rfl) _ _ (by rfl) wo.heap.size (.slice (some ⟨gb, 0, none⟩) x cb) x (ints (rowI (gf L W H) y x)) (by rfl) (hrow.alloc _) wr.heap.size #[.int .i64 0] (by rfl) (heap_alloc_new _ _) rfl (by simp [Value.oneCell']) (by omega) (by simp; omega) ?_; intro g3 cap3 w3 hown3 hgrow3 hat3 hlt3))
            go_roundw
            case rel =>
              refine ⟨x + 1, g3, cap3, by omega, by go_num, rfl, ?_, ?_⟩
              · rw [RB.out, GG.out]; simpa [ints] using hown3
              · exact (Ext.more hb2 _).grown hgrow3 (by simp; omega) (by intro z hz; have := (hrow.lt gb rfl).1; simp [Value.ownBlock] at hz; omega)
            case measure => simp [intOf]; omega
        · obtain rfl : x = W := by omega
          have hm2 := MM.out.ext hb2
          have hsz := hb2.size
          have hwz := hb.size
          have GS := Lib.hid (gridI_succ (gf L x H) x y)
          have RL := Lib.hid (rowI_length (gf L x H) y x)
          have GL := Lib.hid (gridI_length (gf L x H) x y)
          have hou := hm2.outer
          rw [GL.out] at hou
          have hB1' := hB1.under hb2 hB1.lt
          have hB0' := hB0.under hb2 hB0.lt
          have c1 := hB1'.cell 0
          have f1 := hB1'.free 0
          simp at c1
          have hRlt := hB1'.lt
          have hou2 := own_blk_ne hou hB1' (by decide)
          have hou0 : ∀ z, (Value.slice A y c).ownBlock = some z → R + 1 ≤ z := fun z hz => (hou.lt z hz).1
          go_wp2_with (first
            | (go_at_call 88; refine W1.out.mono ?_; rintro e w' ⟨rfl, rfl⟩)
            | (at_builtin; refine wpList_app rowT (by rfl) _ _ (by rfl) (R + 1) (.slice A y c) y vs (by rfl) (hou.alloc _) wr.heap.size #[.slice (some ⟨gb, 0, none⟩) x cb] (by rfl) (heap_alloc_new _ _) rfl (by simp [Value.oneCell']) (by omega) (by simp; omega) ?_; intro g3 cap3 w3 hown3 hgrow3 hat3 hlt3; have hB3 := (hB1'.more (.cells #[.slice (some ⟨gb, 0, none⟩) x cb] 55)).by_grown hgrow3 (fun e => hou2 e.symm); have c3 := hB3.cell 0; have f3 := hB3.free 0; simp at c3))
          have hB03 := (hB0'.more (.cells #[.slice (some ⟨gb, 0, none⟩) x cb] 55)).by_grown hgrow3 (fun e => by have := hou0 _ e.symm; omega)
          have PU : MatAt w3 (R + 1) w3.heap.size (some ⟨g3, 0, none⟩) cap3 (vs ++ [.slice (some ⟨gb, 0, none⟩) (rowI (gf L x H) y x).length cb]) (gridI (gf L x H) x y ++ [rowI (gf L x H) y x]) :=
            MatAt.push MM.out hb2 (by rw [RL.out]; exact hrow) (by omega) (Nat.le_refl _) (by rw [GL.out]; exact hgrow3) (by rw [GL.out, RL.out]; simpa using hown3)
          have hb3 : Below R w w3 := (((hb.trans (hb2.mono (by omega))).alloc (by omega) _).grown hgrow3 (by simp; omega) (fun z hz => by have := hou0 z hz; omega))
          go_roundw
          case rel =>
            refine ⟨y + 1, cap3, some ⟨g3, 0, none⟩, vs ++ [.slice (some ⟨gb, 0, none⟩) (rowI (gf L x H) y x).length cb], by omega, by go_num, hB03.apart (p := ⟨R + 2, 0, none⟩) (by simp) _, hB3.store 0 _, ?_, hb3.setCell (p := ⟨R + 2, 0, none⟩) (by show R ≤ R + 2; omega) _⟩
            rw [GS.out]
            have hz : (w3.setCell ⟨R + 1 + 1, 0, none⟩ (.slice (some ⟨g3, 0, none⟩) (y + 1) cap3)).heap.size = w3.heap.size := by simp [World.setCell]
            rw [hz]
            exact PU.beside hB3 (by decide) (by decide) 0 _
          case measure => simp [intOf]; omega
    · obtain rfl : y = H := by omega
      have c1 := hB1.cell 0
      have c0 := hB0.cell 0
      have f0 := hB0.free 0
      simp at c1 c0
      have hwz := hb.size
      go_wp2_with (go_at_call 89; refine H1.out.mono ?_; rintro e w' ⟨rfl, rfl⟩)
      have cs := (hB0.store 0 (.slice A y c)).cell 0
      simp at cs
      refine bodyPost_ret (v := .agg #[.slice A y c]) (by simp [results, Try.results70, go_sem, cs]) rfl ⟨A, c, vs, rfl, ?_, ?_⟩
      · have hz : (wr.setCell ⟨R, 0, none⟩ (.slice A y c)).heap.size = wr.heap.size := by simp [World.setCell]
        rw [hz]
        exact (MM.out.beside hB0 (by decide) (by decide) 0 _).low (by have := HR.out; omega) (Nat.le_refl _)
      · rw [HR.out]; exact hb.setCell (p := ⟨R, 0, none⟩) (Nat.le_refl _) _
end Go.Proofs.Ytdbelajgndclfaa
