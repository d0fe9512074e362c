/- The laws' drawn grey pictures. -/
import Derived.Test.YtdbelajgndclfaaR8
import Derived.Test.YtdbelajgndclfaaSGrey
import Derived.Test.YtdbelajgndclfaaGIs
import Derived.Deep.CutRange
namespace Go.Proofs.Ytdbelajgndclfaa
open Go.RowKit

/-- Rows of numbers from 0 to 99. -/
def R99 (W : Nat) (r : List Int) : Prop := r.length = W ∧ ∀ n ∈ r, 0 ≤ n ∧ n ≤ 99
theorem greyOk_of {rows : List (List Int)} {W : Nat} (h0 : 0 < rows.length) (h1 : rows.length ≤ 16) (hW0 : 0 < W) (hW : W ≤ 16) (h : ∀ r ∈ rows, R99 W r) : greyOk rows = true ∧ tabW rows = W := by
  have hw : tabW rows = W := by rw [← tabW_head h0]; exact (h _ (List.getElem_mem _)).1
  refine ⟨tab_yes (by simp only [tabSz, Bool.and_eq_true, inB_iff]; omega) (fun j hj => ?_), hw⟩
  have := h _ (List.getElem_mem hj)
  simp only [rowN, Bool.and_eq_true, decide_eq_true_eq, List.all_eq_true, inB_iff]
  exact ⟨by rw [hw]; exact this.1, this.2⟩

theorem Chg.of_grown {w w' : World} {row : Option Nat} {B : Nat} (h : w.grownBy w' row) (hr : ∀ z, row = some z → B ≤ z) : Chg (fun b => B ≤ b) w w' :=
  ⟨h.os, h.tape, h.output, h.size, fun k hk hs => h.block k hk (fun e => hs (hr k e.symm))⟩
theorem Src.grown {B : Nat} {w w' : World} {s : Nat} {A : Option Addr} {n c : Nat} {l : List Int} {i : Nat} {row : Option Nat} (h : Src B w s A n c l i) (hg : w.grownBy w' row) (hs : some s ≠ row) (hr : ∀ z, row = some z → B ≤ z) (hB : B ≤ w.heap.size) : Src B w' s A n c l i := by
  obtain ⟨seed, h0, h1, hBk⟩ := h.at_
  refine ⟨⟨seed, h0, h1, hBk.by_grown hg hs⟩, ⟨h.bytes.1, h.bytes.2.1, fun hn => ?_⟩, h.low, h.high⟩
  obtain ⟨a, e, hlt, hc⟩ := h.bytes.2.2 hn
  have hab := h.low a e hn
  refine ⟨a, e, Nat.lt_of_lt_of_le hlt hg.size, fun i hi => ?_⟩
  have hbl : Below B w w' := (Below.refl B w).grown hg hB hr
  exact (hbl.cell (by rw [Addr.add_block]; exact hab)).trans (hc i hi)
set_option maxRecDepth 100000 in
set_option maxHeartbeats 2000000 in
theorem r8Grey_any (A : Option Addr) (n c : Nat) (l : List Int) (w : World) (hl : BytesAt w A n l) (hn : n ≤ maxLen) :
    Calls Try.prog 41 #[.slice A n c] w fun e w' => ∃ A c rows, e = .returned (.agg #[.slice A rows.length c]) ∧ greyOk rows = true ∧ MatRd w' A rows ∧ Below w.heap.size w w' := by
  have F0 := Lib.hid (from0_any A n c l (w.alloc (.cells #[.slice none 0 0] 39)) (hl.ext (Ext.more (Ext.refl _) _)))
  have R0 := Blk.made w 39 #[.slice none 0 0]
  have B0 : Below w.heap.size w (w.alloc (.cells #[.slice none 0 0] 39)) := Ext.more (Ext.refl _) _
  clear hl
  go_enter Try.func41, Try.ntmps41
  go_wp2_with fail
  refine F0.out.mono ?_
  rintro e w1 ⟨s, rfl, S1, hb1⟩
  replace R0 := R0.under hb1 R0.lt
  replace B0 := Ext.then_ B0 hb1
  simp only [World.size_alloc] at S1
  clear hb1
  go_wp2_with fail
  refine (pick_any _ s A n c 0 l 7 (by decide) (by decide) w1 S1 hn (by omega)).mono ?_
  rintro e w2 ⟨⟨k, hk, rfl⟩, ⟨j, hj, S2⟩, ho⟩
  have hsw := S1.high
  replace R0 := ho.blk R0 (fun e => by omega)
  replace B0 := B0.trans (ho.below (fun b hb => by subst hb; omega) (by have := R0.lt; have := ho.size; have := B0.size; omega))
  clear S1 ho
  go_wp2_with fail
  refine (pick_any _ s A n c j l 7 (by decide) (by decide) w2 S2 hn (by omega)).mono ?_
  rintro e w3 ⟨⟨k2, hk2, rfl⟩, ⟨j2, hj2, S3⟩, ho⟩
  replace R0 := ho.blk R0 (fun e => by omega)
  replace B0 := B0.trans (ho.below (fun b hb => by subst hb; omega) (by have := R0.lt; have := ho.size; have := B0.size; omega))
  clear S2 ho
  obtain ⟨W, hWd⟩ : ∃ W, k + 1 = W := ⟨_, rfl⟩
  obtain ⟨H, hHt⟩ : ∃ H, k2 + 1 = H := ⟨_, rfl⟩
  have e1 : IntKind.i64.wrap ((1 : Int) + (k : Int)) = (W : Int) := by rw [show (1 : Int) + (k : Int) = W by omega]; exact IntWalk.i64_in _ (by omega)
  have e2 : IntKind.i64.wrap ((1 : Int) + (k2 : Int)) = (H : Int) := by rw [show (1 : Int) + (k2 : Int) = H by omega]; exact IntWalk.i64_in _ (by omega)
  have hW0 : 0 < W := by omega
  have hW : W ≤ 7 := by omega
  have hH0 : 0 < H := by omega
  have hH : H ≤ 7 := by omega
  have z3 := R0.lt
  have y3 := B0.size
  have s3 := S3.at_.le
  have hrow0 := World.ownsRow_lit (e := 55) (size := 1) w3 #[] 0 (Nat.le_refl _) (by decide) rfl
  have T1 : Blk ((w3.alloc (.cells #[] 55)).alloc (.cells #[.slice (some ⟨w3.heap.size, 0, none⟩) 0 0] 39)) (w3.heap.size + 1) 39 #[.slice (some ⟨w3.heap.size, 0, none⟩) 0 0] := by
    have := Blk.made (w3.alloc (.cells #[] 55)) 39 #[.slice (some ⟨w3.heap.size, 0, none⟩) 0 0]
    simpa using this
  have B4 : Below w3.heap.size w3 ((w3.alloc (.cells #[] 55)).alloc (.cells #[.slice (some ⟨w3.heap.size, 0, none⟩) 0 0] 39)) := Ext.more (Ext.more (Ext.refl _) _) _
  have M0 := MatAt.nil _ w3.heap.size ((w3.alloc (.cells #[] 55)).alloc (.cells #[.slice (some ⟨w3.heap.size, 0, none⟩) 0 0] 39)).heap.size _ _ (hrow0.alloc (.cells #[.slice (some ⟨w3.heap.size, 0, none⟩) 0 0] 39)) (fun a ha => by cases ha; simp; omega)
  replace S3 := S3.ext B4
  replace R0 := R0.under B4 R0.lt
  replace B0 := Ext.then_ B0 B4
  clear hrow0 B4
  go_wp2_with fail
  generalize (w3.alloc (.cells #[] 55)).alloc (.cells #[.slice (some ⟨w3.heap.size, 0, none⟩) 0 0] 39) = w4 at *
  obtain ⟨Lo, hLo⟩ : ∃ Lo, w3.heap.size = Lo := ⟨_, rfl⟩
  rw [hLo] at T1 M0 z3 y3 s3
  have HLo := Lib.hid hLo
  clear hLo
  refine (one_any _ s A n c j2 l 3 (by decide) (by decide) w4 S3 hn (by omega)).mono ?_
  rintro e w5 ⟨⟨ev, rfl⟩, ⟨j3, hj3, S4⟩, ho⟩
  replace R0 := ho.blk R0 (fun e => by omega)
  replace T1 := ho.blk T1 (fun e => by omega)
  replace M0 := (M0.keep ho (fun b h1 h2 h3 => by omega)).low (Nat.le_refl _) ho.size
  replace B0 := B0.trans (ho.below (fun b hb => by subst hb; omega) (by have := R0.lt; have := ho.size; have := B0.size; omega))
  clear S3 ho
  go_wp2_with fail
  refine (pick_any _ s A n c j3 l 100 (by decide) (by decide) w5 S4 hn (by omega)).mono ?_
  rintro e w6 ⟨⟨k3, hk3, rfl⟩, ⟨j4, hj4, S5⟩, ho⟩
  replace R0 := ho.blk R0 (fun e => by omega)
  replace T1 := ho.blk T1 (fun e => by omega)
  replace M0 := (M0.keep ho (fun b h1 h2 h3 => by omega)).low (Nat.le_refl _) ho.size
  replace B0 := B0.trans (ho.below (fun b hb => by subst hb; omega) (by have := R0.lt; have := ho.size; have := B0.size; omega))
  clear S4 ho
  simp only [HLo.out]
  have j4b : j4 ≤ 10 := by omega
  clear hj hj2 hj3 hj4 F0
  obtain ⟨R, hR⟩ : ∃ R, w.heap.size = R := ⟨_, rfl⟩
  rw [hR] at R0 B0 S5 z3 y3 hsw ⊢
  have HR := Lib.hid hR
  clear hR e1 e2
  go_wp2_with fail
  go_loopw [8, 9, 10, 11] (fun lv i _ _ wr => ∃ (y c2 : Nat) (A2 : Option Addr) (vs : List Value) (rows : List (List Int)) (u j : Nat), y ≤ H ∧ i = .int .i64 y ∧ lv = .int .i64 u ∧ u ≤ 99 ∧ rows.length = y ∧ (∀ r ∈ rows, R99 W r) ∧ Blk wr R 39 #[.slice none 0 0] ∧ Blk wr (Lo + 1) 39 #[.slice A2 y c2] ∧
    MatAt wr Lo wr.heap.size A2 c2 vs rows ∧ j ≤ 10 + 10 * y ∧ Src (R + 1) wr s A n c l j ∧ Below R w wr) (fun _ i _ _ _ => H - (intOf i).toNat)
  case atStart => exact ⟨0, 0, _, [], [], k3, j4, Nat.zero_le _, rfl, rfl, by omega, rfl, by simp, R0, T1, M0, by omega, S5, B0⟩
  case round =>
    obtain ⟨y, c2, A2, vs, rows, u, j, hy, rfl, rfl, hu, hrl, hrs, hB0, hB1, hm, hjb, hS, hb⟩ := hrel
    clear R0 T1 M0 S5 B0
    have MM := Lib.hid hm
    have HRS := Lib.hid (And.intro hrl hrs)
    clear hm hrs hrl
    by_cases hlt : y < H
    · obtain ⟨wo, rfl⟩ : ∃ wo : World, wo = wr := ⟨_, rfl⟩
      have hrow0 := World.ownsRow_lit (e := 2) (size := 1) wo #[] 0 (Nat.le_refl _) (by decide) rfl
      have hLz := hB1.lt
      have SE := hS.ext (Ext.more (Ext.refl _) (.cells #[] 2))
      have C0 : Chg (fun b => b = s ∨ wo.heap.size ≤ b) wo (wo.alloc (.cells #[] 2)) := (Chg.of_below (Ext.more (Ext.refl _) (.cells #[] 2))).mono (fun b h => .inr h)
      go_wp2_with fail
      go_loopw [8, 10, 11] (fun lv v i wr => ∃ (x gb2 cb u j : Nat) (r : List Int), x ≤ W ∧ i = .int .i64 x ∧ lv = .int .i64 u ∧ u ≤ 99 ∧ R99 x r ∧ v = .slice (some ⟨gb2, 0, none⟩) x cb ∧ wr.ownsRow wo.heap.size 2 1 (.slice (some ⟨gb2, 0, none⟩) x cb) x (ints r) ∧
        j ≤ 10 + 10 * y + x ∧ Src (R + 1) wr s A n c l j ∧ Chg (fun b => b = s ∨ wo.heap.size ≤ b) wo wr) (fun _ _ i _ => W - (intOf i).toNat)
      case atStart => exact ⟨0, _, 0, u, j, [], Nat.zero_le _, rfl, rfl, hu, ⟨rfl, by simp⟩, rfl, hrow0, by omega, SE, C0⟩
      case round =>
        obtain ⟨x, gb2, cb, u2, j2, r, hx, rfl, rfl, hu2, hr, rfl, hrow, hj2, hS2, hc2⟩ := hrel
        clear hrow0 SE C0
        have HRR := Lib.hid hr
        clear hr
        by_cases hxl : x < W
        · have hsz := hc2.size
          cases ev
          case' false =>
            have PK := Lib.hid (pick_any _ s A n c j2 l 100 (by decide) (by decide) wr hS2 hn (by omega))
            have HROW := Lib.hid hrow
            have HC := Lib.hid hc2
            clear hrow hS2 hc2
            go_upto_region 16 with (go_at_call 57; refine PK.out.mono ?_; rintro e w7 ⟨⟨u3, hu3, rfl⟩, ⟨j5, hj5, S7⟩, ho⟩)
            have hz7 := ho.size
            have hrow := (ho.own HROW.out (fun g hg e => by have := (HROW.out.lt g hg).1; omega))
            have hc2 := HC.out.trans (ho.mono (fun b hb => .inl hb))
            clear HROW HC PK ho hu2
            have hu2 : u3 ≤ 99 := by omega
            have hj6 : j5 ≤ 10 + 10 * y + (x + 1) := by omega
            clear hj5 hu3 hz7 hsz
          case' true =>
            obtain ⟨w7, rfl⟩ : ∃ w7 : World, w7 = wr := ⟨_, rfl⟩
            obtain ⟨u3, rfl⟩ : ∃ u3 : Nat, u3 = u2 := ⟨_, rfl⟩
            obtain ⟨j5, rfl⟩ : ∃ j5 : Nat, j5 = j2 := ⟨_, rfl⟩
            have S7 := hS2
            have hj6 : j5 ≤ 10 + 10 * y + (x + 1) := by omega
            clear hS2 hsz
          all_goals
            have hsz := hc2.size
            have S8 := Lib.hid (S7.ext (Ext.more (Ext.refl _) (.cells #[.int .i64 u3] 2)))
            have C8 := Lib.hid (hc2.trans ((Chg.of_below (Ext.more (Ext.refl w7) (.cells #[.int .i64 u3] 2))).mono (fun b hb => .inr (Nat.le_trans hsz hb))))
            clear S7 hc2
            go_wp2_with (at_builtin; refine wpList_app intT (by rfl) _ _ (by rfl) wo.heap.size (.slice (some ⟨gb2, 0, none⟩) x cb) x (ints r) (by rfl) (hrow.alloc _) w7.heap.size #[.int .i64 u3] (by rfl) (heap_alloc_new _ _) rfl (by simp [Value.oneCell']) (by omega) (by simp; omega) ?_; intro g3 cap3 w8 hown3 hgrow3 hat3 hlt3)
            have hg0 := hrow.lt gb2 rfl
            have gC : Chg (fun b => wo.heap.size ≤ b) (w7.alloc (.cells #[.int .i64 u3] 2)) w8 := Chg.of_grown hgrow3 (fun z hz => by cases hz; exact hg0.1)
            have S9 := S8.out.grown hgrow3 (fun e => by have := Option.some.inj (show some s = some gb2 from e); omega) (fun z hz => by have := Option.some.inj (show some gb2 = some z from hz); omega) (by simp; omega)
            go_roundw
            case rel =>
              refine ⟨x + 1, g3, cap3, u3, j5, r ++ [(u3 : Int)], by omega, by go_num, rfl, hu2, ⟨by simp [HRR.out.1], fun m hm => ?_⟩, rfl, by simpa [ints] using hown3, hj6, S9, C8.out.trans (gC.mono fun b hb => .inr hb)⟩
              rcases List.mem_append.1 hm with h | h
              · exact HRR.out.2 m h
              · simp at h; omega
            case measure => simp [intOf]; omega
        · obtain rfl : x = W := by omega
          have hwz := hb.size
          have hsz := hc2.size
          have hB0' := hc2.blk hB0 (fun e => by rcases e with e | e <;> omega)
          have hB1' := hc2.blk hB1 (fun e => by rcases e with e | e <;> omega)
          have hm2 := MM.out.keep hc2 (fun b h1 h2 h3 => by rcases h3 with h3 | h3 <;> omega)
          have hb2 := hb.trans (hc2.below (B := R) (fun b hb => by rcases hb with hb | hb <;> omega) (by omega))
          have hou := hm2.outer
          rw [HRS.out.1] at hou
          have c1 := hB1'.cell 0
          have f1 := hB1'.free 0
          simp at c1
          have hRlt := hB1'.lt
          have hou2 := own_blk_ne hou hB1' (by decide)
          have hou0 : ∀ z, (Value.slice A2 y c2).ownBlock = some z → Lo ≤ z := fun z hz => (hou.lt z hz).1
          have S8 := Lib.hid (hS2.ext (Ext.more (Ext.refl _) (.cells #[.slice (some ⟨gb2, 0, none⟩) x cb] 55)))
          clear hS2
          go_wp2_with (at_builtin; refine wpList_app rowT (by rfl) _ _ (by rfl) Lo (.slice A2 y c2) y vs (by rfl) (hou.alloc _) wr.heap.size #[.slice (some ⟨gb2, 0, none⟩) x cb] (by rfl) (heap_alloc_new _ _) rfl (by simp [Value.oneCell']) (by omega) (by simp; omega) ?_; intro g3 cap3 w3' hown3 hgrow3 hat3 hlt3; have hB3 := (hB1'.more (.cells #[.slice (some ⟨gb2, 0, none⟩) x cb] 55)).by_grown hgrow3 (fun e => hou2 e.symm); have c3 := hB3.cell 0; have f3 := hB3.free 0; simp at c3)
          have hB03 := (hB0'.more (.cells #[.slice (some ⟨gb2, 0, none⟩) x cb] 55)).by_grown hgrow3 (fun e => by have := hou0 _ e.symm; omega)
          have hrl := HRR.out.1
          have PU : MatAt w3' Lo w3'.heap.size (some ⟨g3, 0, none⟩) cap3 (vs ++ [.slice (some ⟨gb2, 0, none⟩) r.length cb]) (rows ++ [r]) :=
            MatAt.push hm2 (Ext.refl _) (by rw [hrl]; exact hrow) (by omega) (Nat.le_refl _) (by rw [HRS.out.1]; exact hgrow3) (by rw [HRS.out.1, hrl]; simpa using hown3)
          have hb3 : Below R w w3' := ((hb2.alloc (by omega) _).grown hgrow3 (by simp; omega) (fun z hz => by have := hou0 z hz; omega))
          have S9 := S8.out.grown hgrow3 (fun e => by have := hou0 _ e.symm; omega) (fun z hz => by have := hou0 _ hz; omega) (by simp; omega)
          go_roundw
          case rel =>
            refine ⟨y + 1, cap3, some ⟨g3, 0, none⟩, vs ++ [.slice (some ⟨gb2, 0, none⟩) r.length cb], rows ++ [r], u2, j2, by omega, by go_num, rfl, hu2, by simp [HRS.out.1], fun q hq => ?_, hB03.apart (p := ⟨Lo + 1, 0, none⟩) (by simp; omega) _, hB3.store 0 _, ?_, by omega, S9.other (p := ⟨Lo + 1, 0, none⟩) (by show R + 1 ≤ Lo + 1; omega) (by show s ≠ Lo + 1; omega) _, hb3.setCell (p := ⟨Lo + 1, 0, none⟩) (by show R ≤ Lo + 1; omega) _⟩
            · rcases List.mem_append.1 hq with h | h
              · exact HRS.out.2 q h
              · simp at h; subst h; exact HRR.out
            · have hz : (w3'.setCell ⟨Lo + 1, 0, none⟩ (.slice (some ⟨g3, 0, none⟩) (y + 1) cap3)).heap.size = w3'.heap.size := by simp [World.setCell]
              rw [hz]
              exact PU.beside hB3 (by decide) (by decide) 0 _
          case measure => simp [intOf]; omega
    · obtain rfl : y = H := by omega
      have c1 := hB1.cell 0
      have c0 := hB0.cell 0
      have f0 := hB0.free 0
      simp at c1 c0
      have cs := (hB0.store 0 (.slice A2 y c2)).cell 0
      simp at cs
      have GO := greyOk_of (rows := rows) (W := W) (by rw [HRS.out.1]; omega) (by rw [HRS.out.1]; omega) hW0 (by omega) HRS.out.2
      have GOH := Lib.hid GO.1
      clear GO hS
      go_wp2_with fail
      refine bodyPost_ret (v := .agg #[.slice A2 y c2]) (by simp [results, Try.results41, go_sem, cs]) rfl ⟨A2, c2, rows, by rw [HRS.out.1], GOH.out, ?_, ?_⟩
      · exact (MM.out.beside hB0 (by decide) (by decide) 0 _).rd
      · rw [HR.out]; exact hb.setCell (p := ⟨R, 0, none⟩) (Nat.le_refl _) _
end Go.Proofs.Ytdbelajgndclfaa
