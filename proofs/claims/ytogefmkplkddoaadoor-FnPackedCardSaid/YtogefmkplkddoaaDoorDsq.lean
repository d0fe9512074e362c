/- A drawn picture that is a square. -/
import Derived.Test.YtogefmkplkddoaaDoorR8
import Derived.Test.YtogefmkplkddoaaDoorTrP
import Derived.Deep.CutRange
import Derived.Deep.DeepCutAuto
namespace Go.Proofs.YtogefmkplkddoaaDoor
open Go.RowKit

set_option maxRecDepth 100000 in
set_option maxHeartbeats 1000000 in
theorem among5_any (B s : Nat) (A : Option Addr) (n c i : Nat) (l : List Int) (g : Nat) (w : World) (h : Src B w s A n c l i) (hn : n ≤ maxLen) (hi : i ≤ 1000000) (hg : g < w.heap.size) (hne : ¬ g = s)
    (c0 : w.cell? ⟨g, 0, none⟩ = some (.int .i64 1)) (c1 : w.cell? ⟨g, 1, none⟩ = some (.int .i64 2)) (c2 : w.cell? ⟨g, 2, none⟩ = some (.int .i64 4)) (c3 : w.cell? ⟨g, 3, none⟩ = some (.int .i64 4)) (c4 : w.cell? ⟨g, 4, none⟩ = some (.int .i64 8)) :
    Calls Tryd.prog 44 #[.pointer (some ⟨s, 0, none⟩), .slice (some ⟨g, 0, none⟩) 5 5] w fun e w' => (∃ m : Nat, m ≤ 4 ∧ e = .returned (.int .i64 ((2 ^ m : Nat) : Int))) ∧ (∃ j, j ≤ i + 1 ∧ Src B w' s A n c l j) ∧ One s w w' := by
  have PK := Lib.hid (pick_any B s A n c i l 5 (by decide) (by decide) w h hn hi)
  clear h
  go_enter Tryd.func44, Tryd.ntmps44
  go_wp2_with fail
  refine (PK.out).mono ?_
  rintro e w' ⟨⟨k, hk, rfl⟩, hj, ho⟩
  have d0 := (ho.cell (p := ⟨g, 0, none⟩) hg hne).trans c0
  have d1 := (ho.cell (p := ⟨g, 1, none⟩) hg hne).trans c1
  have d2 := (ho.cell (p := ⟨g, 2, none⟩) hg hne).trans c2
  have d3 := (ho.cell (p := ⟨g, 3, none⟩) hg hne).trans c3
  have d4 := (ho.cell (p := ⟨g, 4, none⟩) hg hne).trans c4
  have HH := Lib.hid (And.intro hj ho)
  clear hj ho c0 c1 c2 c3 c4 PK
  have hk4 : k = 0 ∨ k = 1 ∨ k = 2 ∨ k = 3 ∨ k = 4 := by omega
  rcases hk4 with rfl | rfl | rfl | rfl | rfl
  · go_wp2_with fail
    go_ret
    exact ⟨⟨0, by decide, rfl⟩, HH.out⟩
  · go_wp2_with fail
    go_ret
    exact ⟨⟨1, by decide, rfl⟩, HH.out⟩
  · go_wp2_with fail
    go_ret
    exact ⟨⟨2, by decide, rfl⟩, HH.out⟩
  · go_wp2_with fail
    go_ret
    exact ⟨⟨2, by decide, rfl⟩, HH.out⟩
  · go_wp2_with fail
    go_ret
    exact ⟨⟨3, by decide, rfl⟩, HH.out⟩
set_option maxRecDepth 100000 in
set_option maxHeartbeats 1000000 in
theorem drawSide_any (B s : Nat) (A : Option Addr) (n c i : Nat) (l : List Int) (w : World) (h : Src B w s A n c l i) (hn : n ≤ maxLen) (hi : i ≤ 1000) :
    Calls Tryd.prog 59 #[.pointer (some ⟨s, 0, none⟩)] w fun e w' => (∃ m : Nat, m ≤ 4 ∧ e = .returned (.int .i64 ((2 ^ m : Nat) : Int))) ∧ (∃ j, j ≤ i + 2 ∧ Src B w' s A n c l j) ∧ Chg (fun b => b = s ∨ w.heap.size ≤ b) w w' := by
  have ON := Lib.hid (one_any B s A n c i l 16 (by decide) (by decide) w h hn (by omega))
  have slt := h.at_.le
  clear h
  go_enter Tryd.func59, Tryd.ntmps59
  go_wp2_with fail
  refine (ON.out).mono ?_
  rintro e w1 ⟨⟨b, rfl⟩, ⟨j, hj, S1⟩, ho⟩
  have C1 : Chg (fun b => b = s ∨ w.heap.size ≤ b) w w1 := ho.mono (fun k hk => .inl hk)
  have z1 := ho.size
  clear ho ON
  cases b
  · have N : Blk (w1.alloc (.cells #[.int .i64 1, .int .i64 2, .int .i64 4, .int .i64 4, .int .i64 8] 2)) w1.heap.size 2 #[.int .i64 1, .int .i64 2, .int .i64 4, .int .i64 4, .int .i64 8] := Blk.made _ _ _
    have E1 : Below w1.heap.size w1 (w1.alloc (.cells #[.int .i64 1, .int .i64 2, .int .i64 4, .int .i64 4, .int .i64 8] 2)) := Ext.more (Ext.refl _) _
    have S2 := S1.ext E1
    have C2 := C1.ext E1
    obtain ⟨w2, hw2⟩ : ∃ w2, w1.alloc (.cells #[.int .i64 1, .int .i64 2, .int .i64 4, .int .i64 4, .int .i64 8] 2) = w2 := ⟨_, rfl⟩
    rw [hw2] at N E1 S2 C2
    have HW := Lib.hid hw2
    have d0 := N.cell 0
    have d1 := N.cell 1
    have d2 := N.cell 2
    have d3 := N.cell 3
    have d4 := N.cell 4
    simp at d0 d1 d2 d3 d4
    have AM := Lib.hid (among5_any B s A n c j l w1.heap.size w2 S2 hn (by omega) N.lt (by omega) d0 d1 d2 d3 d4)
    clear hw2 S1 S2 d0 d1 d2 d3 d4 C1
    go_wp2_with fail
    try simp only [HW.out]
    refine AM.out.mono ?_
    rintro e w3 ⟨⟨m, hm, rfl⟩, ⟨j2, hj2, S3⟩, ho3⟩
    go_wp2_with fail
    go_ret
    exact ⟨⟨m, hm, rfl⟩, ⟨j2, by omega, S3⟩, C2.trans (ho3.mono (fun k hk => .inl hk))⟩
  · go_wp2_with fail
    go_ret
    exact ⟨⟨4, by decide, rfl⟩, ⟨j, by omega, S1⟩, C1⟩
set_option maxRecDepth 100000 in
set_option maxHeartbeats 4000000 in
theorem drawSquare_any (B s : Nat) (A : Option Addr) (n c i : Nat) (l : List Int) (S : Nat) (w : World) (h : Src B w s A n c l i) (hn : n ≤ maxLen) (hi : i ≤ 100) (hS0 : 0 < S) (hS : S ≤ 16) :
    Calls Tryd.prog 60 #[.pointer (some ⟨s, 0, none⟩), .int .i64 S] w fun e w' => ∃ A c L, e = .returned (.agg #[.slice A S c]) ∧ L.length = S * S ∧
      w'.ownsRow w.heap.size 9 1 (.slice A S c) S (strs (rowsTo L S S)) ∧ Chg (fun b => b = s ∨ w.heap.size ≤ b) w w' := by
  obtain ⟨i0, hi', hz0, hz1, hz2⟩ := info_parts boolInfo
  have hb : S * S ≤ 256 := Nat.le_trans (Nat.mul_le_mul hS hS) (by decide)
  have hc : (S : Int) * S = ((S * S : Nat) : Int) := by simp
  have hmk : ∀ V : World, (Instr.makeSlice 61 (.int .i64 ((S : Int) * S)) (.int .i64 ((S : Int) * S))).run Tryd.prog V = .ok (.slice (some ⟨V.heap.size, 0, none⟩) (S * S) (S * S)) (V.alloc (.cells (boolC (List.replicate (S * S) false)) 4)) := by
    intro V
    have h := run_make (P := Tryd.prog) V 61 4 i0 _ Tryd.underlying61 hi' hz0 .i64 .i64 ((S : Int) * S) ((S : Int) * S) (by omega) (Int.le_refl _) (by rw [hz2]; omega) (by omega)
    rw [h, hz1, hc, Int.toNat_natCast]
    show Result.ok _ (V.alloc (.cells (madeCells #[.bool false] (S * S * 1)) _)) = _
    rw [Nat.mul_one, boolC_made]
  have hm1 : (S : Int) * S ≤ 256 := by omega
  have hm0 : (0 : Int) ≤ (S : Int) * S := by omega
  have D0 : DrawInv B w s A n c l w.heap.size (w.heap.size + 1) (S * S) i ((w.alloc (.cells #[.slice none 0 0] 36)).alloc (.cells (boolC (List.replicate (S * S) false)) 4)) := by
    refine ⟨⟨i, Nat.le_refl _, h.ext (Ext.more (Ext.more (Ext.refl _) _) _)⟩, (Blk.made _ _ _).more _, ⟨List.replicate (S * S) false, List.length_replicate, ?_⟩, ?_, by omega, Nat.le_refl _, h.at_.le⟩
    · have := Blk.made (w.alloc (.cells #[.slice none 0 0] 36)) 4 (boolC (List.replicate (S * S) false))
      simpa using this
    · exact (Chg.of_below (Ext.more (Ext.more (Ext.refl w) (.cells #[.slice none 0 0] 36)) (.cells (boolC (List.replicate (S * S) false)) 4))).mono (fun k hk => .inr hk)
  clear hc hi' hz0 hz1 hz2 h
  have MK := Lib.hid (fun (g : Nat) (L : List Bool) (V : World) (hL : L.length = S * S) (hB : Blk V g 4 (boolC L)) => make_any (some ⟨g, 0, none⟩) (S * S) S S L V (fun _ => ⟨g, rfl, hB.lt, fun i hi => by
    have hi2 : i < L.length := by simpa [bools] using hi
    rw [hB.cell i, boolC_get L i hi2]; simp [bools]⟩) hS0 (by omega) (by omega) hL)
  have HSS := Lib.hid (fun (j i : Nat) (hj : j < S) (hi : i < S) => show j * S + i < S * S from by
    have : (j + 1) * S ≤ S * S := Nat.mul_le_mul_right _ hj
    rw [Nat.add_mul] at this; omega)
  go_enter Tryd.func60, Tryd.ntmps60
  go_wp2_with fail
  refine (D0.pick hn (by omega) 5 (by decide) (by decide)).mono ?_
  rintro e w1 ⟨k, hk, rfl, D1⟩
  clear D0 hmk
  go_wp2_with fail
  go_loopw [6, 7, 8, 9, 10, 11, 12] (fun kv _ _ _ _ _ _ wr => ∃ k : Nat, k ≤ 4 ∧ kv = .int .i64 k ∧ DrawInv B w s A n c l w.heap.size (w.heap.size + 1) (S * S) (i + 1 + 6 * (4 - k)) wr) (fun v _ _ _ _ _ _ _ => (intOf v).toNat)
  case atStart => exact ⟨k, by omega, rfl, D1.le (by omega)⟩
  case round =>
    obtain ⟨q, hq, rfl, D⟩ := hrel
    clear D1
    by_cases hz : q = 0
    · subst hz
      obtain ⟨L, hL, hB⟩ := D.list
      have M := Lib.hid (MK.out _ _ _ hL hB)
      have HD := Lib.hid D
      have HLL := Lib.hid hL
      clear D hB hL
      go_wp2_with fail
      refine M.out.mono ?_
      rintro e w6 ⟨A6, c6, rfl, own6, hb6⟩
      have hR := HD.out.res.under hb6 HD.out.res.lt
      have f0 := hR.free 0
      have c0 := hR.cell 0
      have cs := (hR.store 0 (.slice A6 S c6)).cell 0
      simp at c0 cs
      have hgr := HD.out.chg.size
      have hRlt := HD.out.res.lt
      go_wp2_with fail
      refine bodyPost_ret (v := .agg #[.slice A6 S c6]) (by simp [results, Tryd.results60, go_sem, cs]) rfl ⟨A6, c6, L, rfl, HLL.out, ?_, ?_⟩
      · exact own_base (ownsRow_setCell_below own6 (a := ⟨w.heap.size, 0, none⟩) (by show w.heap.size < wr.heap.size; omega) _) hgr
      · exact (HD.out.chg.ext hb6).store (p := ⟨w.heap.size, 0, none⟩) (.inr (Nat.le_refl _)) _
    · have t0 : (0 : Int) < (q : Int) := by omega
      go_wp2_with fail
      refine (D.pick hn (by omega) 4 (by decide) (by decide)).mono ?_
      rintro e w6 ⟨k2, hk2, rfl, D6⟩
      clear D
      have sh : ∃ z : Nat, 0 < z ∧ z ≤ 8 ∧ wrap64 (2 ^ k2) = (z : Int) := by
        rcases (show k2 = 0 ∨ k2 = 1 ∨ k2 = 2 ∨ k2 = 3 by omega) with rfl | rfl | rfl | rfl
        · exact ⟨1, by decide, by decide, IntWalk.wrap64_in _ ⟨by decide, by decide⟩⟩
        · exact ⟨2, by decide, by decide, IntWalk.wrap64_in _ ⟨by decide, by decide⟩⟩
        · exact ⟨4, by decide, by decide, IntWalk.wrap64_in _ ⟨by decide, by decide⟩⟩
        · exact ⟨8, by decide, by decide, IntWalk.wrap64_in _ ⟨by decide, by decide⟩⟩
      obtain ⟨z, hz0, hz8, hsh⟩ := sh
      have u0 := u64_small (k2 : Int) (by omega) (by omega)
      have hzz : z ≤ 16 := by omega
      go_upto_if 29 with fail
      rw [hsh]
      go_cut [7] (fun s7 wx => ∃ z' : Nat, s7 = .int .i64 z' ∧ 0 < z' ∧ z' ≤ 16 ∧ wx = w6)
      case first =>
        by_cases hlt : (S : Int) < (z : Int)
        · have q1 : decide ((S : Int) < (z : Int)) = true := decide_eq_true hlt
          go_wp2_with fail
          go_meet
          exact ⟨S, rfl, hS0, hS, rfl⟩
        · have q1 : decide ((S : Int) < (z : Int)) = false := decide_eq_false hlt
          go_wp2_with fail
          go_meet
          exact ⟨z, rfl, hz0, hzz, rfl⟩
      case rest =>
      obtain ⟨z', rfl, hz1, hz16, hwc⟩ := hcut
      obtain rfl : w6 = wc := hwc.symm
      clear hsh hz0 hz8 hzz u0
      go_wp2_with fail
      refine (D6.pick hn (by omega) S (by omega) (by omega)).mono ?_
      rintro e w7 ⟨x, hx, rfl, D7⟩
      clear D6
      go_wp2_with fail
      refine (D7.pick hn (by omega) S (by omega) (by omega)).mono ?_
      rintro e w8 ⟨y, hy, rfl, D8⟩
      clear D7
      go_wp2_with fail
      refine (D8.one hn (by omega) 3 (by omega) (by omega)).mono ?_
      rintro e w9 ⟨b, rfl, D9⟩
      clear D8
      go_wp2_with fail
      refine (D9.one hn (by omega) 2 (by omega) (by omega)).mono ?_
      rintro e w10 ⟨b2, rfl, D10⟩
      clear D9
      go_upto_if 41 with fail
      have hz : ((z' : Int) == 0) = false := by rw [beq_eq_false_iff_ne]; omega
      have hz' : ¬ (z' : Int) = 0 := by omega
      have m1 : (x : Int).tmod (z' : Int) = ((x % z' : Nat) : Int) := by rw [Int.tmod_eq_emod_of_nonneg (by omega)]; exact (Int.natCast_emod _ _).symm
      have m2 : (y : Int).tmod (z' : Int) = ((y % z' : Nat) : Int) := by rw [Int.tmod_eq_emod_of_nonneg (by omega)]; exact (Int.natCast_emod _ _).symm
      have l1 : x % z' ≤ x := Nat.mod_le _ _
      have l2 : y % z' ≤ y := Nat.mod_le _ _
      go_cut [8, 9] (fun s8 s9 wx => ∃ x' y' : Nat, s8 = .int .i64 x' ∧ s9 = .int .i64 y' ∧ x' < S ∧ y' < S ∧ wx = w10)
      case first =>
        cases b2
        · go_wp2_with fail
          go_meet
          exact ⟨x, y, rfl, rfl, by omega, by omega, rfl⟩
        · generalize x % z' = r1 at *
          generalize y % z' = r2 at *
          go_wp2_with fail
          go_meet
          exact ⟨x - r1, y - r2, by go_num, by go_num, by omega, by omega, rfl⟩
      case rest =>
      obtain ⟨x', y', rfl, rfl, hx', hy', hwc⟩ := hcut
      obtain rfl : w10 = wc := hwc.symm
      clear m1 m2 l1 l2 hx hy
      have D11 := D10.le (show i + 1 + 6 * (4 - q) + 1 + 1 + 1 + 1 + 1 ≤ i + 1 + 6 * (4 - (q - 1)) by omega)
      clear D10
      obtain ⟨I, hI⟩ : ∃ I, i + 1 + 6 * (4 - (q - 1)) = I := ⟨_, rfl⟩
      rw [hI] at D11
      have HI := Lib.hid hI
      clear hI
      go_wp2_with fail
      go_loopw [11, 12] (fun jv _ wr => ∃ j : Nat, y' ≤ j ∧ j ≤ S ∧ jv = .int .i64 j ∧ DrawInv B w s A n c l w.heap.size (w.heap.size + 1) (S * S) I wr) (fun jv _ _ => S - (intOf jv).toNat)
      case atStart => exact ⟨y', Nat.le_refl _, by omega, rfl, D11⟩
      case round =>
        obtain ⟨j, hj1, hj2, rfl, DJ⟩ := hrel
        clear D11
        by_cases c1 : (j : Int) < (y' : Int) + (z' : Int)
        · by_cases c2 : (j : Int) < (S : Int)
          · have q1 : decide ((j : Int) < (y' : Int) + (z' : Int)) = true := decide_eq_true c1
            have q2 : decide ((j : Int) < (S : Int)) = true := decide_eq_true c2
            go_wp2_with fail
            go_loopw [12] (fun iv wr => ∃ a : Nat, x' ≤ a ∧ a ≤ S ∧ iv = .int .i64 a ∧ DrawInv B w s A n c l w.heap.size (w.heap.size + 1) (S * S) I wr) (fun iv _ => S - (intOf iv).toNat)
            case atStart => exact ⟨x', Nat.le_refl _, by omega, rfl, DJ⟩
            case round =>
              obtain ⟨a, ha1, ha2, rfl, DA⟩ := hrel
              clear DJ
              by_cases c3 : (a : Int) < (x' : Int) + (z' : Int)
              · by_cases c4 : (a : Int) < (S : Int)
                · have q3 : decide ((a : Int) < (x' : Int) + (z' : Int)) = true := decide_eq_true c3
                  have q4 : decide ((a : Int) < (S : Int)) = true := decide_eq_true c4
                  have hin := HSS.out j a (by omega) (by omega)
                  obtain ⟨⟨u, cu⟩, fu⟩ := DA.cells hin
                  have DP := Lib.hid (DA.put (j * S + a) (!b))
                  have e0 : (j : Int) * (S : Int) + (a : Int) = ((j * S + a : Nat) : Int) := by simp
                  have e1 : (j : Int) * (S : Int) = ((j * S : Nat) : Int) := by simp
                  generalize hJS : j * S = js at *
                  have i1 : ((js + a : Nat) : Int) < ((S * S : Nat) : Int) := by omega
                  have i2 : (0 : Int) ≤ ((js + a : Nat) : Int) := by omega
                  clear DA
                  go_wp2_with fail
                  go_roundw
                  case rel => exact ⟨a + 1, by omega, by omega, by go_num, DP.out⟩
                  case measure => simp [intOf]; omega
                · have q3 : decide ((a : Int) < (x' : Int) + (z' : Int)) = true := decide_eq_true c3
                  have q4 : decide ((a : Int) < (S : Int)) = false := decide_eq_false c4
                  go_wp2_with fail
                  go_roundw
                  case rel => exact ⟨j + 1, by omega, by omega, by go_num, DA⟩
                  case measure => simp [intOf]; omega
              · have q3 : decide ((a : Int) < (x' : Int) + (z' : Int)) = false := decide_eq_false c3
                go_wp2_with fail
                go_roundw
                case rel => exact ⟨j + 1, by omega, by omega, by go_num, DA⟩
                case measure => simp [intOf]; omega
          · have q1 : decide ((j : Int) < (y' : Int) + (z' : Int)) = true := decide_eq_true c1
            have q2 : decide ((j : Int) < (S : Int)) = false := decide_eq_false c2
            go_wp2_with fail
            go_roundw
            case rel => exact ⟨q - 1, by omega, by simp; omega, by rw [HI.out]; exact DJ⟩
            case measure => simp [intOf]; omega
        · have q1 : decide ((j : Int) < (y' : Int) + (z' : Int)) = false := decide_eq_false c1
          go_wp2_with fail
          go_roundw
          case rel => exact ⟨q - 1, by omega, by simp; omega, by rw [HI.out]; exact DJ⟩
          case measure => simp [intOf]; omega
/-- A call has returned a square of new memory. -/
def DrawnSq (w : World) (e : Ending) (w' : World) : Prop :=
  ∃ A c m L, e = .returned (.agg #[.slice A (2 ^ m) c]) ∧ m ≤ 4 ∧ L.length = 2 ^ m * 2 ^ m ∧ w'.ownsRow w.heap.size 9 1 (.slice A (2 ^ m) c) (2 ^ m) (strs (rowsTo L (2 ^ m) (2 ^ m))) ∧ Below w.heap.size w w'
set_option maxRecDepth 100000 in
set_option maxHeartbeats 1000000 in
theorem r8Square_any (A : Option Addr) (n c : Nat) (l : List Int) (w : World) (hl : BytesAt w A n l) (hn : n ≤ maxLen) :
    Calls Tryd.prog 30 #[.slice A n c] w (DrawnSq w) := by
  have F0 := Lib.hid (from0_any A n c l (w.alloc (.cells #[.slice none 0 0] 36)) (hl.ext (Ext.more (Ext.refl _) _)))
  have R0 := Blk.made w 36 #[.slice none 0 0]
  have B0 : Below w.heap.size w (w.alloc (.cells #[.slice none 0 0] 36)) := Ext.more (Ext.refl _) _
  clear hl
  go_enter Tryd.func30, Tryd.ntmps30
  go_wp2_with fail
  refine F0.out.mono ?_
  rintro e w1 ⟨s, rfl, S1, hb1⟩
  replace R0 := R0.under hb1 R0.lt
  replace B0 := Ext.then_ B0 hb1
  simp only [World.size_alloc] at S1
  clear hb1
  go_wp2_with fail
  refine (drawSide_any _ s A n c 0 l w1 S1 hn (by omega)).mono ?_
  rintro e w2 ⟨⟨m, hm, rfl⟩, ⟨j, hj, S2⟩, ho⟩
  have hsw := S1.high
  have y1 := R0.lt
  replace R0 := ho.blk R0 (fun e => by omega)
  replace B0 := B0.trans (ho.below (fun b hb => by omega) (by omega))
  clear S1 ho
  have p0 : 0 < 2 ^ m := Nat.pow_pos (by decide)
  have p1 : 2 ^ m ≤ 2 ^ 4 := Nat.pow_le_pow_right (by decide) hm
  have DR := Lib.hid (drawSquare_any _ s A n c j l (2 ^ m) w2 S2 hn (by omega) p0 (by omega))
  have RES := Lib.hid (fun (A4 : Option Addr) (c4 : Nat) (L : List Bool) (w' : World) (h1 : L.length = 2 ^ m * 2 ^ m) (h2 : w'.ownsRow w.heap.size 9 1 (.slice A4 (2 ^ m) c4) (2 ^ m) (strs (rowsTo L (2 ^ m) (2 ^ m)))) (h3 : Below w.heap.size w w') => (⟨A4, c4, m, L, rfl, hm, h1, h2, h3⟩ : DrawnSq w (.returned (.agg #[.slice A4 (2 ^ m) c4])) w'))
  generalize 2 ^ m = Sd at *
  go_wp2_with fail
  refine DR.out.mono ?_
  rintro e w4 ⟨A4, c4, L, rfl, hL, own4, ch⟩
  have z3 := R0.lt
  replace R0 := ch.blk R0 (fun e => by omega)
  have y3 := B0.size
  replace B0 := B0.trans (ch.below (fun b hb => by omega) (by omega))
  have c0 := R0.cell 0
  have f0 := R0.free 0
  have cs := (R0.store 0 (.slice A4 Sd c4)).cell 0
  simp at c0 cs
  have HL := Lib.hid hL
  clear hL S2 ch DR
  go_wp2_with fail
  refine bodyPost_ret (v := .agg #[.slice A4 Sd c4]) (by simp [results, Tryd.results30, go_sem, cs]) rfl (RES.out A4 c4 L _ HL.out ?_ ?_)
  · exact own_base (ownsRow_setCell_below own4 (a := ⟨w.heap.size, 0, none⟩) z3 _) y3
  · exact B0.setCell (p := ⟨w.heap.size, 0, none⟩) (Nat.le_refl _) _
end Go.Proofs.YtogefmkplkddoaaDoor
