/- The law FnPackedSteps: drawn steps, and its walk. -/
import Derived.Test.YtogefmkplkddoaaDoorPksP
import Derived.Test.YtogefmkplkddoaaDoorUps
import Derived.Test.YtogefmkplkddoaaDoorSrc
namespace Go.Proofs.YtogefmkplkddoaaDoor
open Go.RowKit

theorem ext_of_alloc {V w' : World} {o : Obj} (h : V.alloc o = w') : Below V.heap.size V w' := by rw [← h]; exact Ext.more (Ext.refl _) _
theorem Src.growS {B : Nat} {w w' : World} {s : Nat} {A : Option Addr} {n c : Nat} {l : List Int} {i : Nat} {row : Option Nat} (h : Src B w s A n c l i) (hg : w.grownBy w' row) (hs : some s ≠ row) (hr : ∀ z, row = some z → B ≤ z) (hB : B ≤ w.heap.size) : Src B w' s A n c l i := by
  obtain ⟨seed, h0, h1, hBk⟩ := h.at_
  refine ⟨⟨seed, h0, h1, hBk.by_grown hg hs⟩, ⟨h.bytes.1, h.bytes.2.1, fun hn => ?_⟩, h.low, h.high⟩
  obtain ⟨a, e, hlt, hc⟩ := h.bytes.2.2 hn
  have hab := h.low a e hn
  refine ⟨a, e, Nat.lt_of_lt_of_le hlt hg.size, fun i hi => ?_⟩
  have hbl : Below B w w' := (Below.refl B w).grown hg hB hr
  exact (hbl.cell (by rw [Addr.add_block]; exact hab)).trans (hc i hi)
set_option maxHeartbeats 1000000 in
theorem among_any (B s : Nat) (A : Option Addr) (n c i : Nat) (l : List Int) (g : Nat) (w : World) (h : Src B w s A n c l i) (hn : n ≤ maxLen) (hi : i ≤ 1000000) (hg : g < w.heap.size) (hne : ¬ g = s)
    (c0 : w.cell? ⟨g, 0, none⟩ = some (.int .i64 0)) (c1 : w.cell? ⟨g, 1, none⟩ = some (.int .i64 0)) (c2 : w.cell? ⟨g, 2, none⟩ = some (.int .i64 1)) (c3 : w.cell? ⟨g, 3, none⟩ = some (.int .i64 3)) :
    Calls Tryd.prog 44 #[.pointer (some ⟨s, 0, none⟩), .slice (some ⟨g, 0, none⟩) 4 4] w fun e w' => (∃ r : Nat, (r = 0 ∨ r = 1 ∨ r = 3) ∧ e = .returned (.int .i64 r)) ∧ (∃ j, j ≤ i + 1 ∧ Src B w' s A n c l j) ∧ One s w w' := by
  have PK := Lib.hid (pick_any B s A n c i l 4 (by decide) (by decide) w h hn hi)
  clear h
  go_enter Tryd.func44, Tryd.ntmps44
  go_wp2_with fail
  refine (PK.out).mono ?_
  rintro e w' ⟨⟨k, hk, rfl⟩, hj, ho⟩
  have d0 := (ho.cell (p := ⟨g, 0, none⟩) hg hne).trans c0
  have d1 := (ho.cell (p := ⟨g, 1, none⟩) hg hne).trans c1
  have d2 := (ho.cell (p := ⟨g, 2, none⟩) hg hne).trans c2
  have d3 := (ho.cell (p := ⟨g, 3, none⟩) hg hne).trans c3
  have HH := Lib.hid (And.intro hj ho)
  clear hj ho c0 c1 c2 c3 PK
  have hk4 : k = 0 ∨ k = 1 ∨ k = 2 ∨ k = 3 := by omega
  rcases hk4 with rfl | rfl | rfl | rfl
  · go_wp2_with fail
    go_ret
    exact ⟨⟨0, .inl rfl, rfl⟩, HH.out⟩
  · go_wp2_with fail
    go_ret
    exact ⟨⟨0, .inl rfl, rfl⟩, HH.out⟩
  · go_wp2_with fail
    go_ret
    exact ⟨⟨1, .inr (.inl rfl), rfl⟩, HH.out⟩
  · go_wp2_with fail
    go_ret
    exact ⟨⟨3, .inr (.inr rfl), rfl⟩, HH.out⟩
set_option maxRecDepth 100000 in
set_option maxHeartbeats 2000000 in
theorem r8Steps_any (A : Option Addr) (n c : Nat) (l : List Int) (w : World) (hl : BytesAt w A n l) (hn : n ≤ maxLen) :
    Calls Tryd.prog 19 #[.slice A n c] w fun e w' => ∃ (L : List UInt8) (κ : Nat) (q : List UInt8), e = .returned (.string ⟨L.toArray⟩) ∧ Wk L κ q ∧ L.length ≤ 24 ∧ Below w.heap.size w w' := by
  have F0 := Lib.hid (from0_any A n c l w hl)
  clear hl
  go_enter Tryd.func19, Tryd.ntmps19
  go_wp2_with fail
  refine (F0.out).mono ?_
  rintro e w1 ⟨s, rfl, S1, B1⟩
  have sw := S1.high
  have sl := S1.at_.le
  obtain ⟨w2, hw2⟩ : ∃ w2, w1.alloc (.cells #[] 5) = w2 := ⟨_, rfl⟩
  have O2 : w2.ownsRow w1.heap.size 5 1 (.slice (some ⟨w1.heap.size, 0, none⟩) 0 0) 0 (u8s []) := by rw [← hw2]; exact World.ownsRow_lit (e := 5) (size := 1) w1 #[] 0 (Nat.le_refl _) (by decide) rfl
  have B12 := ext_of_alloc hw2
  have S2 := S1.ext B12
  have B2 := Ext.then_ B1 B12
  have zz := B12.size
  have z1 := B1.size
  have HW2 := Lib.hid hw2
  clear S1 B1 B12 F0 hw2
  go_wp2_with fail
  try simp only [HW2.out]
  refine (pick_any _ s A n c 0 l 4 (by decide) (by decide) w2 S2 hn (by omega)).mono ?_
  rintro e w3 ⟨⟨κ0, hκ0, rfl⟩, ⟨j0, hj0, S3⟩, ho⟩
  have O3 := ho.own O2 (fun g hg => by simp [Value.ownBlock] at hg; omega)
  have B3 := B2.trans (ho.below (fun b hb => by subst hb; exact sw) (by omega))
  have z3 := ho.size
  clear O2 B2 S2 ho
  go_wp2_with fail
  refine (pick_any _ s A n c j0 l 24 (by decide) (by decide) w3 S3 hn (by omega)).mono ?_
  rintro e w4 ⟨⟨m0, hm0, rfl⟩, ⟨j1, hj1, S4⟩, ho⟩
  have O4 := ho.own O3 (fun g hg => by simp [Value.ownBlock] at hg; omega)
  have B4 := B3.trans (ho.below (fun b hb => by subst hb; exact sw) (by have := B3.size; omega))
  have z4 := ho.size
  clear O3 B3 S3 ho
  have NX0 : Hid (Nx [] κ0) := ⟨by omega, .inl rfl⟩
  go_wp2_with fail
  go_loopw [4, 5, 6] (fun ov wv nv wr => ∃ (m κ g cp j : Nat) (L : List UInt8), nv = .int .i64 m ∧ m + L.length ≤ 24 ∧ 1 ≤ m + L.length ∧ wv = .int .i64 κ ∧ ov = .slice (some ⟨g, 0, none⟩) L.length cp ∧ Hid (Nx L κ) ∧ κ < 4 ∧ Hid (L ≠ [] → ∃ κl q, Wk L κl q) ∧
    wr.ownsRow w1.heap.size 5 1 (.slice (some ⟨g, 0, none⟩) L.length cp) L.length (u8s L) ∧ j ≤ 2 + L.length ∧ Src w.heap.size wr s A n c l j ∧ Below w.heap.size w wr ∧ w1.heap.size ≤ wr.heap.size) (fun _ _ nv _ => (intOf nv).toNat)
  case atStart => exact ⟨m0 + 1, κ0, _, _, j1, [], by go_num, by simp; omega, by simp, rfl, rfl, NX0, by omega, (fun h => absurd rfl h), O4, by simp; omega, S4, B4, by omega⟩
  case round =>
    obtain ⟨m, κ, g, cp, j, L, rfl, hmL, hmL1, rfl, rfl, hNx, hκ, hWk, O, hj, hS1, hb, zr⟩ := hrel
    clear O4 S4 B4 z4 hj1 hm0
    have gl := O.lt g rfl
    by_cases hm : m = 0
    · subst hm
      obtain ⟨κl, q, hw⟩ := hWk.out (fun e => by subst e; simp at hmL1)
      have CV := str_of_own O rfl
      clear O hS1
      go_wp2_with fail
      go_ret
      exact ⟨L, κl, q, rfl, hw, by omega, hb⟩
    · have t0 : (0 : Int) < (m : Int) := by omega
      have lt := ltr_at hκ
      have k0 : (0 : Int) ≤ (κ : Int) := by omega
      have k1 : (κ : Int) < 4 := by omega
      have sz := hS1.at_.le
      have hbz := hb.size
      have HH := Lib.hid (And.intro O (And.intro hS1 hb))
      clear O hS1 hb
      go_wp2_with (at_builtin; refine wpList_appB byteT (by rfl) _ _ (by rfl) w1.heap.size (.slice (some ⟨g, 0, none⟩) L.length cp) L.length (u8s L) (by rfl) (HH.out.1.alloc _) wr.heap.size 1 1 [.int .u8 (((lettr κ).toNat : Nat) : Int)] (by rfl) rfl (World.news_of_block (heap_alloc_new _ _)) (by simp [Value.oneCell']) (by omega) (by simp; omega) (by intro h; cases h) ?_; intro g5 c5 w5 own5 hg5)
      have B5 : Below w.heap.size w w5 := (Ext.more HH.out.2.2 _).grown hg5 (by simp; omega) (fun z hz => by simp [Value.ownBlock] at hz; omega)
      have S5 := (HH.out.2.1.ext (Ext.more (Ext.refl _) (.cells #[.int .u8 (((lettr κ).toNat : Nat) : Int)] 5))).growS hg5 (by simp [Value.ownBlock]; omega) (fun z hz => by simp [Value.ownBlock] at hz; omega) (by simp; omega)
      have z5 := hg5.size
      simp only [World.size_alloc] at z5
      have hO5 := own_u8 own5 (Nat.le_refl _) (ys := u8s (L ++ [lettr κ])) (m := (L ++ [lettr κ]).length) (by rw [u8s_app]; rfl) (by simp)
      obtain ⟨q, hq⟩ := hNx.out.put
      have HL : Hid ((L ++ [lettr κ]).length = L.length + 1) := by simp [Hid]
      obtain ⟨w6, hw6⟩ : ∃ w6, w5.alloc (.cells #[.int .i64 0, .int .i64 0, .int .i64 1, .int .i64 3] 2) = w6 := ⟨_, rfl⟩
      have T6 : Blk w6 w5.heap.size 2 #[.int .i64 0, .int .i64 0, .int .i64 1, .int .i64 3] := by rw [← hw6]; exact Blk.made _ _ _
      have B56 := ext_of_alloc hw6
      have O6 := own_ext B56 hO5
      have S6 := S5.ext B56
      have B6 := Ext.then_ B5 B56
      have z6 := B56.size
      have g5l := hO5.lt g5 rfl
      have q0 := T6.cell 0
      have q1 := T6.cell 1
      have q2 := T6.cell 2
      have q3 := T6.cell 3
      simp at q0 q1 q2 q3
      have AM := Lib.hid (among_any w.heap.size s A n c j l w5.heap.size w6 S6 hn (by omega) T6.lt (by omega) q0 q1 q2 q3)
      have HW6 := Lib.hid hw6
      clear own5 hg5 S5 B5 hO5 T6 B56 S6 HH hw6 q0 q1 q2 q3 lt k0 k1
      go_wp2_with fail
      try simp only [HW6.out]
      refine AM.out.mono ?_
      rintro e w7 ⟨⟨r, hr, rfl⟩, ⟨j2, hj2, S7⟩, ho⟩
      have O7 := ho.own O6 (fun g' hg => by simp [Value.ownBlock] at hg; omega)
      have B7 := B6.trans (ho.below (fun b hb => by subst hb; exact sw) (by have := B6.size; omega))
      have z7 := ho.size
      have NX : Hid (Nx (L ++ [lettr κ]) ((κ + r) % 4)) := ⟨by omega, .inr ⟨κ, q, hq, by omega⟩⟩
      have WK : Hid (L ++ [lettr κ] ≠ [] → ∃ κl q, Wk (L ++ [lettr κ]) κl q) := fun _ => ⟨κ, q, hq⟩
      have R := Lib.hid (And.intro O7 (And.intro S7 B7))
      have hr3 : r ≤ 3 := by omega
      clear ho O6 B6 O7 S7 B7
      go_wp2_with fail
      go_roundw
      case rel => exact ⟨m - 1, (κ + r) % 4, g5, c5, j2, L ++ [lettr κ], by go_num, by rw [HL.out]; omega, by rw [HL.out]; omega, by go_num, by rw [HL.out], NX, by omega, WK, R.out.1, by rw [HL.out]; omega, R.out.2.1, R.out.2.2, by omega⟩
      case measure => simp [intOf]; omega
set_option maxHeartbeats 400000 in
theorem r8Back_any (κ : Nat) (hκ : κ < 4) (w : World) : Calls Tryd.prog 20 #[.int .u8 (((lettr κ).toNat : Nat) : Int)] w fun e w' => e = .returned (.string ⟨#[lettr ((κ + 2) % 4)]⟩) ∧ w = w' := by
  have : κ = 0 ∨ κ = 1 ∨ κ = 2 ∨ κ = 3 := by omega
  rcases this with rfl | rfl | rfl | rfl
  · show Calls _ _ #[.int .u8 114] w _
    go_enter Tryd.func20, Tryd.ntmps20
    go_wp2_with fail
    go_ret
    exact ⟨rfl, rfl⟩
  · show Calls _ _ #[.int .u8 100] w _
    go_enter Tryd.func20, Tryd.ntmps20
    go_wp2_with fail
    go_ret
    exact ⟨rfl, rfl⟩
  · show Calls _ _ #[.int .u8 108] w _
    go_enter Tryd.func20, Tryd.ntmps20
    go_wp2_with fail
    go_ret
    exact ⟨rfl, rfl⟩
  · show Calls _ _ #[.int .u8 117] w _
    go_enter Tryd.func20, Tryd.ntmps20
    go_wp2_with fail
    go_ret
    exact ⟨rfl, rfl⟩
end Go.Proofs.YtogefmkplkddoaaDoor
