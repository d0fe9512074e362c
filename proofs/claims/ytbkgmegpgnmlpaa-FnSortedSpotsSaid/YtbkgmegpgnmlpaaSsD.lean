/- Spots that a law draws, and how often a spot stands in a list. -/
import Derived.Test.YtbkgmegpgnmlpaaSsP
import Derived.Test.YtbkgmegpgnmlpaaSrc
namespace Go.Proofs.Ytbkgmegpgnmlpaa
open Go.RowKit

theorem Src.growS {B : Nat} {w w' : World} {s : Nat} {A : Option Addr} {n c : Nat} {l : List Int} {i : Nat} {row : Option Nat} (h : Src B w s A n c l i) (hg : w.grownBy w' row) (hs : some s ≠ row) (hr : ∀ z, row = some z → B ≤ z) (hB : B ≤ w.heap.size) : Src B w' s A n c l i := by
  obtain ⟨seed, h0, h1, hBk⟩ := h.at_
  refine ⟨⟨seed, h0, h1, hBk.by_grown hg hs⟩, ⟨h.bytes.1, h.bytes.2.1, fun hn => ?_⟩, h.low, h.high⟩
  obtain ⟨a, e, hlt, hc⟩ := h.bytes.2.2 hn
  have hab := h.low a e hn
  refine ⟨a, e, Nat.lt_of_lt_of_le hlt hg.size, fun i hi => ?_⟩
  have hbl : Below B w w' := (Below.refl B w).grown hg hB hr
  exact (hbl.cell (by rw [Addr.add_block]; exact hab)).trans (hc i hi)
set_option maxRecDepth 100000 in
set_option maxHeartbeats 2000000 in
theorem r8Spots_any (A : Option Addr) (n c : Nat) (l : List Int) (S : Nat) (w : World) (hl : BytesAt w A n l) (hn : n ≤ maxLen) (hS0 : 0 < S) (hS : S ≤ 16) :
    Calls Try.prog 45 #[.slice A n c, .int .i64 S] w fun e w' => ∃ (g cp : Nat) (L : List (Int × Int)), e = .returned (.slice (some ⟨g, 0, none⟩) L.length cp) ∧ L.length ≤ 12 ∧ (∀ p ∈ L, (0 ≤ p.1 ∧ p.1 < S) ∧ 0 ≤ p.2 ∧ p.2 < S) ∧
      w'.ownsRow w.heap.size 29 2 (.slice (some ⟨g, 0, none⟩) L.length cp) L.length (spL L) ∧ Below w.heap.size w w' := by
  have F0 := Lib.hid (from0_any A n c l w hl)
  clear hl
  go_enter Try.func45, Try.ntmps45
  go_wp2_with fail
  refine (F0.out).mono ?_
  rintro e w1 ⟨s, rfl, S1, B1⟩
  have sw := S1.high
  have sl := S1.at_.le
  obtain ⟨w2, hw2⟩ : ∃ w2, w1.alloc (.cells #[] 29) = w2 := ⟨_, rfl⟩
  have O2 : w2.ownsRow w1.heap.size 29 2 (.slice (some ⟨w1.heap.size, 0, none⟩) 0 0) 0 (spL []) := by rw [← hw2]; exact World.ownsRow_lit (e := 29) (size := 2) w1 #[] 0 (Nat.le_refl _) (by decide) rfl
  have B12 := ext_of_alloc hw2
  have S2 := S1.ext B12
  have B2 := Ext.then_ B1 B12
  have zz := B12.size
  have z1 := B1.size
  clear S1 B1 B12 F0
  go_wp2_with fail
  try simp only [hw2]
  refine (pick_any _ s A n c 0 l 13 (by decide) (by decide) w2 S2 hn (by omega)).mono ?_
  rintro e w3 ⟨⟨k0, hk0, rfl⟩, ⟨j0, hj0, S3⟩, ho⟩
  have O3 := ho.own O2 (fun g hg => by simp [Value.ownBlock] at hg; omega)
  have B3 := B2.trans (ho.below (fun b hb => by subst hb; exact sw) (by omega))
  have z3 := ho.size
  clear O2 B2 S2 ho hw2
  go_wp2_with fail
  go_loopw [6, 7, 8] (fun lv iv _ wr => ∃ (k g cp j : Nat) (L : List (Int × Int)), iv = .int .i64 k ∧ k + L.length ≤ 12 ∧ lv = .slice (some ⟨g, 0, none⟩) L.length cp ∧ (∀ p ∈ L, (0 ≤ p.1 ∧ p.1 < S) ∧ 0 ≤ p.2 ∧ p.2 < S) ∧
    wr.ownsRow w1.heap.size 29 2 (.slice (some ⟨g, 0, none⟩) L.length cp) L.length (spL L) ∧ j ≤ 1 + 2 * L.length ∧ Src w.heap.size wr s A n c l j ∧ Below w.heap.size w wr ∧ w1.heap.size ≤ wr.heap.size) (fun _ iv _ _ => (intOf iv).toNat)
  case atStart => exact ⟨k0, _, _, j0, [], rfl, by simp; omega, rfl, by simp, O3, by simp; omega, S3, B3, by omega⟩
  case round =>
    obtain ⟨k, g, cp, j, L, rfl, hkL, rfl, hL, O, hj, hS1, hb, zr⟩ := hrel
    clear O3 S3 B3 z3 hj0 hk0
    by_cases hk : k = 0
    · subst hk
      have HO := Lib.hid (own_base O (show w.heap.size ≤ w1.heap.size by omega))
      have HL := Lib.hid hL
      clear O hL hS1
      go_wp2_with fail
      go_ret
      exact ⟨g, cp, L, rfl, by omega, HL.out, HO.out, hb⟩
    · have t0 : (0 : Int) < (k : Int) := by omega
      have gl := O.lt g rfl
      have HL := Lib.hid hL
      clear hL
      go_wp2_with fail
      refine (pick_any _ s A n c j l S (by omega) (by omega) wr hS1 hn (by omega)).mono ?_
      rintro e w4 ⟨⟨x, hx, rfl⟩, ⟨j1, hj1, S4⟩, ho⟩
      have O4 := ho.own O (fun g' hg => by simp [Value.ownBlock] at hg; omega)
      have B4 := hb.trans (ho.below (fun b hb => by subst hb; exact sw) (by have := hb.size; omega))
      have z4 := ho.size
      obtain ⟨w5, hw5⟩ : ∃ w5, w4.alloc (.cells #[.int .i64 x, .int .i64 0] 29) = w5 := ⟨_, rfl⟩
      have T5 : Blk w5 w4.heap.size 29 #[.int .i64 x, .int .i64 0] := by rw [← hw5]; exact Blk.made _ _ _
      have B45 := ext_of_alloc hw5
      have O5 := own_ext B45 O4
      have S5 := S4.ext B45
      have B5 := Ext.then_ B4 B45
      have z5 := B45.size
      have s4 := S4.at_.le
      have HW5 := Lib.hid hw5
      clear ho O S4 hS1 O4 B4 B45 hb hw5
      go_wp2_with fail
      try simp only [HW5.out]
      refine (pick_any _ s A n c j1 l S (by omega) (by omega) w5 S5 hn (by omega)).mono ?_
      rintro e w6 ⟨⟨y, hy, rfl⟩, ⟨j2, hj2, S6⟩, ho⟩
      have O6 := ho.own O5 (fun g' hg => by simp [Value.ownBlock] at hg; omega)
      have T6 : Blk w6 w4.heap.size 29 #[.int .i64 x, .int .i64 0] := (ho.block _ T5.lt (by omega)).trans T5
      have B6 := B5.trans (ho.below (fun b hb => by subst hb; exact sw) (by have := B5.size; omega))
      have z6 := ho.size
      have f0 := T6.free 0
      have f1 := T6.free 1
      have k0 := T6.cell 0
      have k1 := T6.cell 1
      have m0 := (T6.store 1 (.int .i64 y)).cell 0
      have m1 := (T6.store 1 (.int .i64 y)).cell 1
      simp at k0 k1 m0 m1
      have O7 := ownsRow_setCell_other O6 (a := ⟨w4.heap.size, 1, none⟩) (by simp [Value.ownBlock]; omega) (.int .i64 y)
      have S7 := S6.other (p := ⟨w4.heap.size, 1, none⟩) (by have := B6.size; show w.heap.size ≤ w4.heap.size; omega) (by show s ≠ w4.heap.size; omega) (.int .i64 y)
      have B7 := B6.setCell (p := ⟨w4.heap.size, 1, none⟩) (by show w.heap.size ≤ w4.heap.size; omega) (.int .i64 y)
      have hz7 : (w6.setCell ⟨w4.heap.size, 1, none⟩ (.int .i64 y)).heap.size = w6.heap.size := by simp [World.setCell]
      have l6 := T6.lt
      have HNW : Hid (((w6.setCell ⟨w4.heap.size, 1, none⟩ (.int .i64 y)).alloc (.cells #[.int .i64 x, .int .i64 y] 29)).heap[w6.heap.size]? = some (.cells #[.int .i64 x, .int .i64 y] 29 (0, 0))) := by
        have := heap_alloc_new (w6.setCell ⟨w4.heap.size, 1, none⟩ (.int .i64 y)) (.cells #[.int .i64 x, .int .i64 y] 29)
        rwa [hz7] at this
      have b7 := B7.size
      have HH := Lib.hid (And.intro O7 (And.intro S7 B7))
      clear T6 T5 O5 S5 B5 ho O6 S6 B6 O7 S7 B7
      go_wp2_with (at_builtin; refine wpList_app spotT (by rfl) _ _ (by rfl) w1.heap.size (.slice (some ⟨g, 0, none⟩) L.length cp) L.length (spL L) (by rfl) (HH.out.1.alloc _) w6.heap.size #[.int .i64 x, .int .i64 y] (by rfl) HNW.out rfl (by simp [Value.oneCell']) (by omega) (by simp; omega) ?_; intro g3 cap3 w8 hown8 hgrow8 hat8 hlt8)
      have B8 : Below w.heap.size w w8 := (Ext.more HH.out.2.2 _).grown hgrow8 (by simp; omega) (fun z hz => by simp [Value.ownBlock] at hz; omega)
      have S8 := (HH.out.2.1.ext (Ext.more (Ext.refl _) (.cells #[.int .i64 x, .int .i64 y] 29))).growS hgrow8 (by simp [Value.ownBlock]; omega) (fun z hz => by simp [Value.ownBlock] at hz; omega) (by simp; omega)
      have z8 := hgrow8.size
      simp only [World.size_alloc, hz7] at z8
      have hL2 : ∀ p ∈ L ++ [((x : Int), (y : Int))], (0 ≤ p.1 ∧ p.1 < S) ∧ 0 ≤ p.2 ∧ p.2 < S := by
        intro p hp
        rcases List.mem_append.1 hp with h | h
        · exact HL.out p h
        · rw [List.mem_singleton.1 h]; simp only; omega
      have hlen : (L ++ [((x : Int), (y : Int))]).length = L.length + 1 := by simp
      have R := Lib.hid (show w8.ownsRow w1.heap.size 29 2 (.slice (some ⟨g3, 0, none⟩) (L ++ [((x : Int), (y : Int))]).length cap3) (L ++ [((x : Int), (y : Int))]).length (spL (L ++ [((x : Int), (y : Int))])) by rw [hlen, spL_append]; exact hown8)
      have R2 := Lib.hid (And.intro hL2 (And.intro S8 B8))
      have R3 := Lib.hid hlen
      clear hL2 S8 B8 hown8 hgrow8 hat8 hlt8 hlen HH
      go_wp2_with fail
      go_roundw
      case rel => exact ⟨k - 1, g3, cap3, j2, L ++ [((x : Int), (y : Int))], by go_num, by rw [R3.out]; omega, by rw [R3.out], R2.out.1, R.out, by rw [R3.out]; omega, R2.out.2.1, R2.out.2.2, by omega⟩
      case measure => simp [intOf]; omega
set_option maxRecDepth 100000 in
theorem eql_spot (V : World) (px py x y : Int) : (binOp .eql 29 (.agg #[.int .i64 px, .int .i64 py]) (.agg #[.int .i64 x, .int .i64 y])).run Try.prog V = .ok (.bool (px == x && py == y)) V := by
  have hf : Try.prog.underlying 29 = some (.struct (Try.prog.fieldsOf 29)) := by kernel_rfl
  have hp : Try.prog.stoodInHeld 29 = false := by kernel_rfl
  rw [run_eql_struct, run_equalIn_agg _ _ _ _ _ hf hp]
  simp [go_sem, Try.underlying29, Try.underlying2]
  by_cases h1 : px = x <;> by_cases h2 : py = y <;> simp [h1, h2]
set_option maxRecDepth 100000 in
set_option maxHeartbeats 1000000 in
theorem r8Count_any (g cp n : Nat) (L : List (Int × Int)) (x y : Int) (w : World) (hA : SpAt w g L) (hl : L.length = n) (hn : n ≤ 1000) :
    Calls Try.prog 46 #[.slice (some ⟨g, 0, none⟩) n cp, .agg #[.int .i64 x, .int .i64 y]] w fun e w' => e = .returned (.int .i64 ((L.count (x, y) : Nat) : Int)) ∧ Below w.heap.size w w' := by
  obtain ⟨wB, hwB⟩ : ∃ wB, w.alloc (.cells #[.int .i64 x, .int .i64 y] 29) = wB := ⟨_, rfl⟩
  have T1 : Blk wB w.heap.size 29 #[.int .i64 x, .int .i64 y] := by rw [← hwB]; exact Blk.made w _ _
  have B1 : Below w.heap.size w wB := by rw [← hwB]; exact Ext.more (Ext.refl _) _
  have z2 : wB.heap.size = w.heap.size + 1 := by rw [← hwB]; simp
  have hAB := hA.ext B1
  have HX := Lib.hid (fun V (hb : Below wB.heap.size wB V) => hAB.ext hb)
  have HT := Lib.hid (fun V (hb : Below wB.heap.size wB V) => T1.under hb T1.lt)
  have HL := Lib.hid hl
  have C0 : Hid ((L.take 0).count (x, y) = 0) := rfl
  have CE : Hid ((L.take n).count (x, y) = L.count (x, y)) := by rw [Hid, ← hl, List.take_length]
  have CS : Hid (∀ k, k < n → (L.take (k + 1)).count (x, y) = (L.take k).count (x, y) + if gp L k = (x, y) then 1 else 0) := fun k hk => by
    have hkl : k < L.length := by omega
    rw [List.take_succ_eq_append_getElem hkl, List.count_append, gp_at hkl]
    by_cases e : gp L k = (x, y)
    · rw [if_pos e, e]; simp
    · rw [if_neg e, List.count_eq_zero_of_not_mem (fun h => e (List.mem_singleton.1 h).symm)]
  have CB : Hid (∀ k, (L.take k).count (x, y) ≤ n) := fun k => Nat.le_trans List.count_le_length (by rw [List.length_take]; omega)
  have HB1 := Lib.hid B1
  have HwB := Lib.hid hwB
  clear hA hl hAB T1 z2 B1 hwB
  go_enter Try.func46, Try.ntmps46
  go_wp2_with fail
  try simp only [HwB.out]
  go_loopw [5, 6] (fun cv iv wr => ∃ k : Nat, k ≤ n ∧ iv = .int .i64 k ∧ cv = .int .i64 (((L.take k).count (x, y) : Nat) : Int) ∧ Below wB.heap.size wB wr) (fun _ iv _ => n - (intOf iv).toNat)
  case atStart => exact ⟨0, Nat.zero_le _, rfl, by rw [C0.out]; rfl, Ext.refl _⟩
  case round =>
    obtain ⟨k, hk, rfl, rfl, hb⟩ := hrel
    by_cases hlt : k < n
    · have hkl : k < L.length := by rw [HL.out]; exact hlt
      have hS := HX.out _ hb
      obtain ⟨c1, c2⟩ := hS.2 k hkl
      have gl := hS.1
      rw [gp_at hkl] at c1 c2
      have T := HT.out _ hb
      have tl := T.lt
      have c3 := T.cell 0
      have c4 := T.cell 1
      simp at c3 c4
      have CSk := Lib.hid (CS.out k hlt)
      have bd := CB.out k
      generalize (L.take k).count (x, y) = m at *
      generalize gp L k = p at *
      obtain ⟨px, py⟩ := p
      simp only at c1 c2
      have i0 : (0 : Int) ≤ (k : Int) := by omega
      have i1 : (k : Int) < (n : Int) := by omega
      clear T hS hkl
      have EQ : ∀ V : World, (binOp .eql 29 (.agg #[.int .i64 px, .int .i64 py]) (.agg #[.int .i64 x, .int .i64 y])).run Try.prog V = .ok (.bool (px == x && py == y)) V := fun V => eql_spot V px py x y
      generalize hbb : (px == x && py == y) = bb at EQ
      go_wp2_with fail
      refine wp_region_held_quiet (fun U => Below wr.heap.size wr U) (by kernel_rfl) (by kernel_rfl) (Ext.refl _).drew ?_
      have ne : Nonempty (HeldW (fun U => Below wr.heap.size wr U)) := ⟨⟨wr, Ext.refl _⟩⟩
      have v0 : ∀ i : HeldW (fun U => Below wr.heap.size wr U), i.w.cell? ⟨g, k * 2, none⟩ = _ := fun i => (i.h.cell (p := ⟨g, k * 2, none⟩) gl).trans c1
      have v1 : ∀ i : HeldW (fun U => Below wr.heap.size wr U), i.w.cell? ⟨g, k * 2 + 1, none⟩ = _ := fun i => (i.h.cell (p := ⟨g, k * 2 + 1, none⟩) gl).trans c2
      have v2 : ∀ i : HeldW (fun U => Below wr.heap.size wr U), i.w.cell? ⟨w.heap.size, 0, none⟩ = _ := fun i => (i.h.cell (p := ⟨w.heap.size, 0, none⟩) tl).trans c3
      have v3 : ∀ i : HeldW (fun U => Below wr.heap.size wr U), i.w.cell? ⟨w.heap.size, 1, none⟩ = _ := fun i => (i.h.cell (p := ⟨w.heap.size, 1, none⟩) tl).trans c4
      repeat (go_big_quiet_step (fail))
      refine wpQuiet_nil ?_
      intro w4 hw'
      obtain ⟨⟨_, hb4⟩, rfl⟩ := hw'
      clear ne v0 v1 v2 v3
      have HB := Ext.then_ hb hb4
      cases bb
      · have R : Hid ((L.take (k + 1)).count (x, y) = m) := by
          rw [Hid, CSk.out, if_neg (fun e => by simp only [Prod.mk.injEq] at e; simp [e.1, e.2] at hbb)]; rfl
        clear hbb CSk
        go_wp2_with fail
        go_roundw
        case rel => exact ⟨k + 1, by omega, by go_num, by rw [R.out], HB⟩
        case measure => simp [intOf]; omega
      · have R : Hid ((L.take (k + 1)).count (x, y) = m + 1) := by
          rw [Hid, CSk.out, if_pos (by simpa using hbb)]
        clear hbb CSk
        go_wp2_with fail
        go_roundw
        case rel => exact ⟨k + 1, by omega, by go_num, by rw [R.out]; go_num, HB⟩
        case measure => simp [intOf]; omega
    · obtain rfl : k = n := by omega
      have R := Lib.hid CE.out
      go_wp2_with fail
      rw [R.out]
      go_ret
      exact ⟨rfl, Ext.then_ HB1.out hb⟩
end Go.Proofs.Ytbkgmegpgnmlpaa
