/- The laws' drawn steps that stay in a grey picture. -/
import Derived.Test.YtajepoopicoodaaB10G
import Derived.Test.YtajepoopicoodaaEowS
namespace Go.Proofs.Ytajepoopicoodaa
open Go.RowKit

theorem ewTo_snoc {G : Nat → Int} {W H : Nat} {bs : List UInt8} {p : Int × Int} {b : UInt8} : ewTo G W H (bs ++ [b]) p (bs.length + 1) = ewS G W H (ewTo G W H bs p bs.length) b := by
  rw [ewTo, ewTo, List.take_of_length_le (by simp), List.take_of_length_le (Nat.le_refl _), List.foldl_append]
  rfl
def ltrB : List UInt8 := [100, 108, 114, 117]
theorem ltr_K (k : Nat) (h : k < 4) : letK (ltrB[k]'h) = (k : Int) := by
  match k, h with
  | 0, _ => rfl
  | 1, _ => rfl
  | 2, _ => rfl
  | 3, _ => rfl

set_option maxRecDepth 100000 in
set_option maxHeartbeats 4000000 in
theorem b10Steps_any (A : Option Addr) (n c : Nat) (l : List Int) (Ag : Option Addr) (cg : Nat) (rows : List (List Int)) (W H x y : Nat) (w : World) (hl : BytesAt w A n l) (hn : n ≤ maxLen) (h : MatRd w Ag rows) (hok : greyOk rows = true) (hW : tabW rows = W) (hH : rows.length = H) (hx : x < W) (hy : y < H) :
    Calls Try.prog 46 #[.slice A n c, .agg #[.slice Ag rows.length cg], .agg #[.int .i64 x, .int .i64 y]] w fun e w' => ∃ s : ByteArray, e = .returned (.string s) ∧ s.size ≤ 13 ∧ (∃ (p : Int × Int) (hh : Int), ewTo (gF rows W) W H s.data.toList ((x : Int), (y : Int)) s.data.toList.length = some (p, hh)) ∧ Below w.heap.size w w' := by
  obtain ⟨s1, s2, s3, s4⟩ := tab_sizes hok
  obtain ⟨wB, hwB⟩ : ∃ wB, (w.alloc (.cells #[.slice Ag rows.length cg] 31)).alloc (.cells #[.int .i64 x, .int .i64 y] 28) = wB := ⟨_, rfl⟩
  have B0 : Below w.heap.size w wB := by rw [← hwB]; exact Ext.more (Ext.more (Ext.refl _) _) _
  have TG : Blk wB w.heap.size 31 #[.slice Ag rows.length cg] := by rw [← hwB]; exact (Blk.made _ _ _).more _
  have TS : Blk wB (w.heap.size + 1) 28 #[.int .i64 x, .int .i64 y] := by
    have := Blk.made (w.alloc (.cells #[.slice Ag rows.length cg] 31)) 28 #[.int .i64 x, .int .i64 y]
    rw [← hwB]; simpa using this
  have zB : wB.heap.size = w.heap.size + 2 := by rw [← hwB]; simp
  have F0 := Lib.hid (from0_any A n c l wB (hl.ext B0))
  have HM := Lib.hid h
  have HLB := Lib.hid hl
  have PL := Lib.hid (fun V (hV : GreyAt V w.heap.size Ag cg rows) (x y : Int) => placeS_any w.heap.size Ag cg rows W H x y V hV hW hH (by omega) (by omega) (by omega))
  have INP : Hid (inG W H ((x : Int), (y : Int)) = true) := inG_iff.2 ⟨⟨by show (0 : Int) ≤ x; omega, by show (x : Int) < W; omega⟩, by show (0 : Int) ≤ y; omega, by show (y : Int) < H; omega⟩
  have hs4 : W ≤ 16 := by omega
  have hs2 : H ≤ 16 := by omega
  clear hl h hok s1 s2 s3 s4 hW
  generalize gF rows W = G at *
  rw [hH] at hwB ⊢
  go_enter Try.func46, Try.ntmps46
  go_wp2_with fail
  try simp only [hwB]
  refine F0.out.mono ?_
  rintro e w1 ⟨s, rfl, S1, hb1⟩
  replace B0 := Ext.then_ B0 hb1
  replace TG := TG.under hb1 TG.lt
  replace TS := TS.under hb1 TS.lt
  have sw := S1.high
  have sl := S1.at_.le
  rw [zB] at sw
  replace S1 : Src w.heap.size w1 s A n c l 0 := ⟨S1.at_, S1.bytes, fun a e h0 => (by obtain ⟨a', e', hlt, _⟩ := HLB.out.2.2 h0; rw [e] at e'; cases e'; exact hlt), by omega⟩
  clear hb1 F0 zB
  have hrow0 := World.ownsRow_lit (e := 5) (size := 1) w1 #[] 0 (Nat.le_refl _) (by decide) rfl
  have BB : Below w1.heap.size w1 (w1.alloc (.cells #[] 5)) := Ext.more (Ext.refl _) _
  replace S1 := S1.ext BB
  replace TG := TG.under BB TG.lt
  replace TS := TS.under BB TS.lt
  replace B0 := Ext.then_ B0 BB
  have LT := Lib.hid (fun V => lettersS_any V)
  go_wp2_with fail
  refine (LT.out _).mono ?_
  rintro e w2 ⟨rfl, rfl⟩
  obtain ⟨wL, hwL⟩ : ∃ wL, w1.alloc (.cells #[] 5) = wL := ⟨_, rfl⟩
  rw [hwL] at BB S1 TG TS B0 hrow0
  simp only [hwL]
  have zL : wL.heap.size = w1.heap.size + 1 := by rw [← hwL]; simp
  clear hwL
  have BL : Blk (wL.alloc (.cells (spC stL) 28)) wL.heap.size 28 (spC stL) := Blk.made _ _ _
  have B2 : Below wL.heap.size wL (wL.alloc (.cells (spC stL) 28)) := Ext.more (Ext.refl _) _
  replace S1 := S1.ext B2
  replace TG := TG.under B2 TG.lt
  replace TS := TS.under B2 TS.lt
  replace B0 := Ext.then_ B0 B2
  replace hrow0 := hrow0.alloc (.cells (spC stL) 28)
  clear B2 BB
  generalize wL.heap.size = Lb at *
  subst zL
  generalize wL.alloc (.cells (spC stL) 28) = w2 at *
  generalize w1.heap.size = Lo at *
  go_wp2_with fail
  refine (pick_any _ s A n c 0 l 14 (by decide) (by decide) w2 S1 hn (by omega)).mono ?_
  rintro e w3 ⟨⟨d0, hd0, rfl⟩, ⟨j0, hj0, S3⟩, ho⟩
  have G3 := ho.blk TG (fun e => by omega)
  have P3 := ho.blk TS (fun e => by omega)
  have L3 := ho.blk BL (fun e => by omega)
  have O3 := ho.own hrow0 (fun g hg e => by have := (hrow0.lt g hg).1; omega)
  have bz := B0.size
  have B3 := B0.trans (ho.below (fun b hb => by subst hb; omega) (by omega))
  clear S1 TG TS BL hrow0 B0 ho
  go_wp2_with fail
  go_loopw [8, 11, 12, 13, 14, 15] (fun v i _ _ _ _ wr => ∃ (d gb cb j : Nat) (bs : List UInt8) (p1 p2 hh : Int), i = .int .i64 d ∧ v = .slice (some ⟨gb, 0, none⟩) bs.length cb ∧ bs.length + d ≤ 13 ∧ Hid (ewTo G W H bs ((x : Int), (y : Int)) bs.length = some ((p1, p2), hh)) ∧ inG W H (p1, p2) = true ∧
    Blk wr w.heap.size 31 #[.slice Ag rows.length cg] ∧ Blk wr (w.heap.size + 1) 28 #[.int .i64 p1, .int .i64 p2] ∧ Blk wr (Lo + 1) 28 (spC stL) ∧ wr.ownsRow Lo 5 1 (.slice (some ⟨gb, 0, none⟩) bs.length cb) bs.length (u8s bs) ∧ j + d ≤ 20 ∧ Src w.heap.size wr s A n c l j ∧ Below w.heap.size w wr) (fun _ i _ _ _ _ _ => (intOf i).toNat)
  case atStart => exact ⟨d0, Lo, 0, j0, [], x, y, _, rfl, rfl, by simp; omega, rfl, INP.out, G3, P3, L3, by simpa [u8s] using O3, by omega, S3, B3⟩
  case round =>
    obtain ⟨d, gb, cb, j, bs, p1, p2, hh, rfl, rfl, hlen, hew, hin, hG, hP, hL, hown, hj, hS, hb⟩ := hrel
    clear G3 P3 L3 O3 S3 B3
    obtain ⟨bl, hbl⟩ : ∃ bl, bs.length = bl := ⟨_, rfl⟩
    rw [hbl] at hlen hown hew ⊢
    have HBL := Lib.hid hbl
    clear hbl
    by_cases hlt : 0 < d
    · have d1 : (0 : Int) < (d : Int) := by omega
      obtain ⟨⟨g1, g2⟩, g3, g4⟩ := inG_iff.1 hin
      simp only at g1 g2 g3 g4
      go_wp2_with fail
      refine (pick_any _ s A n c j l 4 (by decide) (by decide) wr hS hn (by omega)).mono ?_
      rintro e w4 ⟨⟨k, hk, rfl⟩, ⟨j4, hj4, S4⟩, ho⟩
      have hk4 : k < 4 := by omega
      have G4 := ho.blk hG (fun e => by omega)
      have P4 := ho.blk hP (fun e => by omega)
      have L4 := ho.blk hL (fun e => by omega)
      have O4 := ho.own hown (fun g hg e => by have := (hown.lt g hg).1; omega)
      have bz2 := hb.size
      have gz := hG.lt
      have B4 := hb.trans (ho.below (fun b hb => by subst hb; omega) (by omega))
      clear hG hP hL hown hb hS ho
      obtain ⟨st, e1, e2, e3, e4⟩ := stL_step (p1, p2) k hk4
      have NX : Hid (ewTo G W H (bs ++ [ltrB[k]'hk4]) ((x : Int), (y : Int)) (bl + 1) = if inG W H (p1 + (stL[k]'hk4).1, p2 + (stL[k]'hk4).2) = true then some ((p1 + (stL[k]'hk4).1, p2 + (stL[k]'hk4).2), max hh (G (plc W (p1 + (stL[k]'hk4).1, p2 + (stL[k]'hk4).2)))) else none) := by
        have e := ewTo_snoc (G := G) (W := W) (H := H) (bs := bs) (p := ((x : Int), (y : Int))) (b := ltrB[k]'hk4)
        rw [HBL.out, hew.out, ewS, ltr_K k hk4, st] at e
        simp only [show ¬ ((k : Int) < 0) by omega, if_false] at e
        exact e
      obtain ⟨c1, c2⟩ := L4.spots.2 k hk4
      clear st
      obtain ⟨dd, hdd⟩ : ∃ dd, stL[k]'hk4 = dd := ⟨_, rfl⟩
      rw [hdd] at c1 c2 e1 e2 e3 e4 NX
      clear hdd
      obtain ⟨dx, dy⟩ := dd
      simp only at c1 c2 e1 e2 e3 e4 NX
      obtain ⟨q1, hq1⟩ : ∃ q1, p1 + dx = q1 := ⟨_, rfl⟩
      obtain ⟨q2, hq2⟩ : ∃ q2, p2 + dy = q2 := ⟨_, rfl⟩
      have w1' : IntKind.i64.wrap (p1 + dx) = q1 := by rw [← hq1]; exact IntWalk.i64_in _ (by omega)
      have w2' : IntKind.i64.wrap (p2 + dy) = q2 := by rw [← hq2]; exact IntWalk.i64_in _ (by omega)
      rw [hq1, hq2] at NX
      clear hq1 hq2
      have s1c := P4.cell 0
      have s2c := P4.cell 1
      simp at s1c s2c
      have j0' : (0 : Int) ≤ (k : Int) := by omega
      have j1' : (k : Int) < 4 := by omega
      have ac1 : ∀ o, (w4.alloc o).cell? ⟨Lo + 1, k * 2, none⟩ = some (.int .i64 dx) := fun o => cell_more (by have := L4.lt; omega) c1
      have ac2 : ∀ o, (w4.alloc o).cell? ⟨Lo + 1, k * 2 + 1, none⟩ = some (.int .i64 dy) := fun o => cell_more (by have := L4.lt; omega) c2
      have as1 : ∀ o, (w4.alloc o).cell? ⟨w.heap.size + 1, 0, none⟩ = some (.int .i64 p1) := fun o => cell_more (by have := P4.lt; omega) s1c
      have as2 : ∀ o, (w4.alloc o).cell? ⟨w.heap.size + 1, 1, none⟩ = some (.int .i64 p2) := fun o => cell_more (by have := P4.lt; omega) s2c
      go_upto_region 8 with fail
      go_region
      have hB5 : Below w4.heap.size w4 ((w4.alloc (.cells #[.int .i64 q1, .int .i64 q2] 28)).drew) := Ext.draw (Ext.more (Ext.refl _) _)
      have N5 : Blk ((w4.alloc (.cells #[.int .i64 q1, .int .i64 q2] 28)).drew) w4.heap.size 28 #[.int .i64 q1, .int .i64 q2] := Blk.made w4 _ _
      have G5 := G4.under hB5 G4.lt
      have P5 := P4.under hB5 P4.lt
      have L5 := L4.under hB5 L4.lt
      have O5 := own_ext hB5 O4
      have S5 := S4.ext hB5
      have B5 := Ext.then_ B4 hB5
      have lo4 := L4.lt
      clear ac1 ac2 as1 as2 c1 c2 s1c s2c G4 P4 L4 O4 S4 B4 hB5
      generalize (w4.alloc (.cells #[.int .i64 q1, .int .i64 q2] 28)).drew = w5 at *
      generalize w4.heap.size = Nb at *
      have P6 := Lib.hid (PL.out w5 (GreyAt.of G5 (HM.out.ext B5)) q1 q2)
      have n0 := N5.cell 0
      have n1 := N5.cell 1
      simp at n0 n1
      go_wp2_with fail
      refine P6.out.mono ?_
      rintro e w7 ⟨rfl, hb7⟩
      have N7 := N5.under hb7 N5.lt
      have G7 := G5.under hb7 G5.lt
      have P7 := P5.under hb7 P5.lt
      have L7 := L5.under hb7 L5.lt
      have O7 := own_ext hb7 O5
      have S7 := S5.ext hb7
      have B7 := Ext.then_ B5 hb7
      clear N5 G5 P5 L5 O5 S5 B5 hb7 P6 n0 n1
      generalize plcO W H q1 q2 = pq at *
      obtain ⟨dm, hdm⟩ : ∃ dm, dm + 1 = d := ⟨d - 1, by omega⟩
      have jd : IntKind.i64.wrap ((d : Int) - 1) = (dm : Int) := by rw [show (d : Int) - 1 = dm by omega]; exact IntWalk.i64_in _ (by omega)
      cases hin2 : inG W H (q1, q2)
      · go_wp2_with fail
        go_roundw
        case rel => exact ⟨dm, gb, cb, j4, bs, p1, p2, hh, rfl, by rw [HBL.out], by rw [HBL.out]; omega, by rw [HBL.out]; exact hew, hin, G7, P7, L7, by rw [HBL.out]; exact O7, by omega, S7, B7⟩
        case measure => simp [intOf]; omega
      · have n0 := N7.cell 0
        have n1 := N7.cell 1
        have f0 := P7.free 0
        have f1 := P7.free 1
        have r0 := P7.cell 0
        have r1 := P7.cell 1
        simp at n0 n1 r0 r1
        have P8 := (P7.store 0 (.int .i64 q1)).store 1 (.int .i64 q2)
        have G8 := (G7.apart (p := ⟨w.heap.size + 1, 0, none⟩) (by show w.heap.size ≠ w.heap.size + 1; omega) (.int .i64 q1)).apart (p := ⟨w.heap.size + 1, 1, none⟩) (by show w.heap.size ≠ w.heap.size + 1; omega) (.int .i64 q2)
        have L8 := (L7.apart (p := ⟨w.heap.size + 1, 0, none⟩) (by show Lo + 1 ≠ w.heap.size + 1; omega) (.int .i64 q1)).apart (p := ⟨w.heap.size + 1, 1, none⟩) (by show Lo + 1 ≠ w.heap.size + 1; omega) (.int .i64 q2)
        have O8 := ownsRow_setCell_below (ownsRow_setCell_below O7 (a := ⟨w.heap.size + 1, 0, none⟩) (by show w.heap.size + 1 < Lo; omega) (.int .i64 q1)) (a := ⟨w.heap.size + 1, 1, none⟩) (by show w.heap.size + 1 < Lo; omega) (.int .i64 q2)
        have B8 := (B7.setCell (p := ⟨w.heap.size + 1, 0, none⟩) (by show w.heap.size ≤ w.heap.size + 1; omega) (.int .i64 q1)).setCell (p := ⟨w.heap.size + 1, 1, none⟩) (by show w.heap.size ≤ w.heap.size + 1; omega) (.int .i64 q2)
        have S8 := (S7.other (p := ⟨w.heap.size + 1, 0, none⟩) (by show w.heap.size ≤ w.heap.size + 1; omega) (by show s ≠ w.heap.size + 1; omega) (.int .i64 q1)).other (p := ⟨w.heap.size + 1, 1, none⟩) (by show w.heap.size ≤ w.heap.size + 1; omega) (by show s ≠ w.heap.size + 1; omega) (.int .i64 q2)
        have NX2 : Hid (ewTo G W H (bs ++ [ltrB[k]'hk4]) ((x : Int), (y : Int)) (bl + 1) = some ((q1, q2), max hh (G (plc W (q1, q2))))) := by rw [Hid, NX.out, hin2]; rfl
        have HIN2 := Lib.hid hin2
        clear NX hin2 G7 L7 O7 S7 B7 N7
        go_upto_region 12 with fail
        clear n0 n1 r0 r1 f0 f1 P7
        generalize (w7.setCell ⟨w.heap.size + 1, 0, none⟩ (.int .i64 q1)).setCell ⟨w.heap.size + 1, 1, none⟩ (.int .i64 q2) = w8 at *
        simp at P8
        have lo8 := L8.lt
        have g8 := G8.lt
        have go8 := O8.lt gb rfl
        have kk : k = 0 ∨ k = 1 ∨ k = 2 ∨ k = 3 := by omega
        have HG8 := Lib.hid G8
        have HP8 := Lib.hid P8
        have HL8 := Lib.hid L8
        have HS8 := Lib.hid S8
        have HB8 := Lib.hid B8
        clear G8 P8 L8 S8 B8
        rcases kk with rfl | rfl | rfl | rfl
        · go_wp2_with (at_builtin; refine wpList_app byteT (by rfl) _ _ (by rfl) Lo (.slice (some ⟨gb, 0, none⟩) bl cb) bl (u8s bs) (by rfl) (O8.alloc _) w8.heap.size #[.int .u8 _] (by rfl) (heap_alloc_new _ _) rfl (by simp [Value.oneCell']) (by omega) (by simp; omega) ?_; intro g3 cap3 w9 hown3 hgrow3 hat3 hlt3)
          have GA := Ext.more (Ext.refl w8) (.cells #[.int .u8 100] 5)
          have own9 : w9.ownsRow Lo 5 1 (.slice (some ⟨g3, 0, none⟩) (bl + 1) cap3) (bl + 1) (u8s (bs ++ [ltrB[0]'hk4])) := by
            simp only [u8s, List.map_append]
            exact hown3
          go_roundw
          case rel =>
            refine ⟨dm, g3, cap3, j4, bs ++ [ltrB[0]'hk4], q1, q2, _, rfl, by simp [HBL.out], by simp [HBL.out]; omega, by rw [List.length_append, HBL.out]; exact NX2.out, HIN2.out, ?_, ?_, ?_, by rw [List.length_append, HBL.out]; exact own9, by omega, ?_, ?_⟩
            · exact (HG8.out.more _).by_grown hgrow3 (fun e => by have := Option.some.inj (show some w.heap.size = some gb from e); omega)
            · exact (HP8.out.more _).by_grown hgrow3 (fun e => by have := Option.some.inj (show some (w.heap.size + 1) = some gb from e); omega)
            · exact (HL8.out.more _).by_grown hgrow3 (fun e => own_blk_ne O8 HL8.out (by decide) e.symm)
            · exact (HS8.out.ext GA).grown hgrow3 (fun e => by have := Option.some.inj (show some s = some gb from e); omega) (fun z hz => by have := Option.some.inj (show some gb = some z from hz); omega) (by simp; omega)
            · exact (Ext.more HB8.out _).grown hgrow3 (by simp; omega) (fun z hz => by have := Option.some.inj (show some gb = some z from hz); omega)
          case measure => simp [intOf]; omega
        · go_wp2_with (at_builtin; refine wpList_app byteT (by rfl) _ _ (by rfl) Lo (.slice (some ⟨gb, 0, none⟩) bl cb) bl (u8s bs) (by rfl) (O8.alloc _) w8.heap.size #[.int .u8 _] (by rfl) (heap_alloc_new _ _) rfl (by simp [Value.oneCell']) (by omega) (by simp; omega) ?_; intro g3 cap3 w9 hown3 hgrow3 hat3 hlt3)
          have GA := Ext.more (Ext.refl w8) (.cells #[.int .u8 108] 5)
          have own9 : w9.ownsRow Lo 5 1 (.slice (some ⟨g3, 0, none⟩) (bl + 1) cap3) (bl + 1) (u8s (bs ++ [ltrB[1]'hk4])) := by
            simp only [u8s, List.map_append]
            exact hown3
          go_roundw
          case rel =>
            refine ⟨dm, g3, cap3, j4, bs ++ [ltrB[1]'hk4], q1, q2, _, rfl, by simp [HBL.out], by simp [HBL.out]; omega, by rw [List.length_append, HBL.out]; exact NX2.out, HIN2.out, ?_, ?_, ?_, by rw [List.length_append, HBL.out]; exact own9, by omega, ?_, ?_⟩
            · exact (HG8.out.more _).by_grown hgrow3 (fun e => by have := Option.some.inj (show some w.heap.size = some gb from e); omega)
            · exact (HP8.out.more _).by_grown hgrow3 (fun e => by have := Option.some.inj (show some (w.heap.size + 1) = some gb from e); omega)
            · exact (HL8.out.more _).by_grown hgrow3 (fun e => own_blk_ne O8 HL8.out (by decide) e.symm)
            · exact (HS8.out.ext GA).grown hgrow3 (fun e => by have := Option.some.inj (show some s = some gb from e); omega) (fun z hz => by have := Option.some.inj (show some gb = some z from hz); omega) (by simp; omega)
            · exact (Ext.more HB8.out _).grown hgrow3 (by simp; omega) (fun z hz => by have := Option.some.inj (show some gb = some z from hz); omega)
          case measure => simp [intOf]; omega
        · go_wp2_with (at_builtin; refine wpList_app byteT (by rfl) _ _ (by rfl) Lo (.slice (some ⟨gb, 0, none⟩) bl cb) bl (u8s bs) (by rfl) (O8.alloc _) w8.heap.size #[.int .u8 _] (by rfl) (heap_alloc_new _ _) rfl (by simp [Value.oneCell']) (by omega) (by simp; omega) ?_; intro g3 cap3 w9 hown3 hgrow3 hat3 hlt3)
          have GA := Ext.more (Ext.refl w8) (.cells #[.int .u8 114] 5)
          have own9 : w9.ownsRow Lo 5 1 (.slice (some ⟨g3, 0, none⟩) (bl + 1) cap3) (bl + 1) (u8s (bs ++ [ltrB[2]'hk4])) := by
            simp only [u8s, List.map_append]
            exact hown3
          go_roundw
          case rel =>
            refine ⟨dm, g3, cap3, j4, bs ++ [ltrB[2]'hk4], q1, q2, _, rfl, by simp [HBL.out], by simp [HBL.out]; omega, by rw [List.length_append, HBL.out]; exact NX2.out, HIN2.out, ?_, ?_, ?_, by rw [List.length_append, HBL.out]; exact own9, by omega, ?_, ?_⟩
            · exact (HG8.out.more _).by_grown hgrow3 (fun e => by have := Option.some.inj (show some w.heap.size = some gb from e); omega)
            · exact (HP8.out.more _).by_grown hgrow3 (fun e => by have := Option.some.inj (show some (w.heap.size + 1) = some gb from e); omega)
            · exact (HL8.out.more _).by_grown hgrow3 (fun e => own_blk_ne O8 HL8.out (by decide) e.symm)
            · exact (HS8.out.ext GA).grown hgrow3 (fun e => by have := Option.some.inj (show some s = some gb from e); omega) (fun z hz => by have := Option.some.inj (show some gb = some z from hz); omega) (by simp; omega)
            · exact (Ext.more HB8.out _).grown hgrow3 (by simp; omega) (fun z hz => by have := Option.some.inj (show some gb = some z from hz); omega)
          case measure => simp [intOf]; omega
        · go_wp2_with (at_builtin; refine wpList_app byteT (by rfl) _ _ (by rfl) Lo (.slice (some ⟨gb, 0, none⟩) bl cb) bl (u8s bs) (by rfl) (O8.alloc _) w8.heap.size #[.int .u8 _] (by rfl) (heap_alloc_new _ _) rfl (by simp [Value.oneCell']) (by omega) (by simp; omega) ?_; intro g3 cap3 w9 hown3 hgrow3 hat3 hlt3)
          have GA := Ext.more (Ext.refl w8) (.cells #[.int .u8 117] 5)
          have own9 : w9.ownsRow Lo 5 1 (.slice (some ⟨g3, 0, none⟩) (bl + 1) cap3) (bl + 1) (u8s (bs ++ [ltrB[3]'hk4])) := by
            simp only [u8s, List.map_append]
            exact hown3
          go_roundw
          case rel =>
            refine ⟨dm, g3, cap3, j4, bs ++ [ltrB[3]'hk4], q1, q2, _, rfl, by simp [HBL.out], by simp [HBL.out]; omega, by rw [List.length_append, HBL.out]; exact NX2.out, HIN2.out, ?_, ?_, ?_, by rw [List.length_append, HBL.out]; exact own9, by omega, ?_, ?_⟩
            · exact (HG8.out.more _).by_grown hgrow3 (fun e => by have := Option.some.inj (show some w.heap.size = some gb from e); omega)
            · exact (HP8.out.more _).by_grown hgrow3 (fun e => by have := Option.some.inj (show some (w.heap.size + 1) = some gb from e); omega)
            · exact (HL8.out.more _).by_grown hgrow3 (fun e => own_blk_ne O8 HL8.out (by decide) e.symm)
            · exact (HS8.out.ext GA).grown hgrow3 (fun e => by have := Option.some.inj (show some s = some gb from e); omega) (fun z hz => by have := Option.some.inj (show some gb = some z from hz); omega) (by simp; omega)
            · exact (Ext.more HB8.out _).grown hgrow3 (by simp; omega) (fun z hz => by have := Option.some.inj (show some gb = some z from hz); omega)
          case measure => simp [intOf]; omega
    · obtain rfl : d = 0 := by omega
      have hcv := str_of_own hown HBL.out
      go_wp2_with fail
      go_ret
      have hN : (⟨bs.toArray⟩ : ByteArray).data.toList = bs := List.toList_toArray
      refine ⟨⟨bs.toArray⟩, rfl, by show bs.toArray.size ≤ 13; rw [List.size_toArray, HBL.out]; omega, ⟨(p1, p2), hh, ?_⟩, hb⟩
      show ewTo G W H (⟨bs.toArray⟩ : ByteArray).data.toList ((x : Int), (y : Int)) (⟨bs.toArray⟩ : ByteArray).data.toList.length = _
      rw [hN, HBL.out]
      exact hew.out
end Go.Proofs.Ytajepoopicoodaa
