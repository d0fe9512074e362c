/- The reference's source of choices. A drawn picture: some picture with so many columns and rows. The laws' drawn grey pictures of the tenth part: rows out of a list that was appended to. -/
import Derived.Test.YtkamkjbllmgifaaBytes
import Derived.Test.YtkamkjbllmgifaaEq
import Derived.BigQuiet
import Derived.IntWalk
import Derived.Laws.BitsLemmas
import Derived.Laws.Bits64
import Derived.Test.YtkamkjbllmgifaaLabS
import Derived.Test.YtkamkjbllmgifaaPicL
import Derived.Test.YtkamkjbllmgifaaLevB
import Derived.Deep.CutRange
import Derived.Deep.DeepCutAuto
namespace Go.Proofs.Ytkamkjbllmgifaa
open Go.RowKit

/-- A source that has been asked at times. -/
def SrcAt (w : World) (s : Nat) (A : Option Addr) (n c : Nat) (i : Nat) : Prop :=
  ∃ seed : Int, 0 ≤ seed ∧ seed < 18446744073709551616 ∧ Blk w s 93 #[.slice A n c, .int .i64 i, .int .u64 seed]
/-- Block s alone has turned. -/
def One (s : Nat) (w w' : World) : Prop := Chg (fun b => b = s) w w'

theorem u64_lo (x : Int) : 0 ≤ IntKind.u64.wrap x := by
  have h : IntKind.u64.wrap x = x % 18446744073709551616 := by simp [IntKind.wrap, IntKind.signed, IntKind.bits]
  rw [h]; omega
theorem u64_hi (x : Int) : IntKind.u64.wrap x < 18446744073709551616 := by
  have h : IntKind.u64.wrap x = x % 18446744073709551616 := by simp [IntKind.wrap, IntKind.signed, IntKind.bits]
  rw [h]; omega

theorem u64_small (n : Int) (h0 : 0 ≤ n) (h1 : n < 2 ^ 63) : IntKind.u64.wrap n = n := by rw [IntKind.wrap_u64]; omega
theorem u64_byte (x : Int) (h : 0 ≤ x) (h2 : x < 18446744073709551616) : ∃ k : Nat, k ≤ 255 ∧ Ending.returned (Value.int .i64 (wrap64 (bits .and .u64 (x / 1099511627776) 255))) = .returned (.int .i64 k) := by
  obtain ⟨m, hm⟩ : ∃ m : Nat, x / 1099511627776 = m := ⟨(x / 1099511627776).toNat, by omega⟩
  rw [hm]
  have hb := (bits_nat .u64 63 (by decide) u64_small m 255 (by omega) (by decide)).1
  have hle : m &&& 255 ≤ 255 := Nat.and_le_right
  refine ⟨m &&& 255, hle, ?_⟩
  have e : ((255 : Nat) : Int) = 255 := rfl
  rw [e] at hb
  rw [hb]
  generalize m &&& 255 = q at *
  rw [IntWalk.wrap64_in _ (by omega)]

set_option maxRecDepth 100000 in
set_option maxHeartbeats 400000 in
theorem next_any (s : Nat) (A : Option Addr) (n c i : Nat) (l : List Int) (w : World) (h : SrcAt w s A n c i) (hl : BytesAt w A n l) (hn : n ≤ maxLen) (hi : i ≤ 1000000) :
    Calls Try.prog 65 #[.pointer (some ⟨s, 0, none⟩)] w fun e w' => (∃ k : Nat, k ≤ 255 ∧ e = .returned (.int .i64 k)) ∧ SrcAt w' s A n c (i + 1) ∧ One s w w' := by
  unfold maxLen at hn
  obtain ⟨seed, hs0, hs1, hB⟩ := h
  have c0 := hB.cell 0
  have c1 := hB.cell 1
  have c2 := hB.cell 2
  simp at c0 c1 c2
  have f1 := hB.free 1
  have f2 := hB.free 2
  have e1 : ∀ (k : Nat) (u v : Value), (((w.drewN k).setCell ⟨s, 1, none⟩ u).setCell ⟨s, 2, none⟩ v).cell? ⟨s, 1, none⟩ = some u := by
    intro k u v
    have := (((show Blk (w.drewN k) s _ _ from hB).store 1 u).store 2 v).cell 1
    simpa using this
  have e0 : ∀ (k : Nat) (u v : Value), (((w.drewN k).setCell ⟨s, 1, none⟩ u).setCell ⟨s, 2, none⟩ v).cell? ⟨s, 0, none⟩ = some (.slice A n c) := by
    intro k u v
    have := (((show Blk (w.drewN k) s _ _ from hB).store 1 u).store 2 v).cell 0
    simpa using this
  have e2 : ∀ (k : Nat) (u v : Value), (((w.drewN k).setCell ⟨s, 1, none⟩ u).setCell ⟨s, 2, none⟩ v).cell? ⟨s, 2, none⟩ = some v := by
    intro k u v
    have := (((show Blk (w.drewN k) s _ _ from hB).store 1 u).store 2 v).cell 2
    simpa using this
  have FIN : Hid (∀ (k j : Nat) (v : Int), 0 ≤ v → v < 18446744073709551616 → SrcAt ((((w.drewN k).setCell ⟨s, 1, none⟩ (.int .i64 ((i : Int) + 1))).setCell ⟨s, 2, none⟩ (.int .u64 v)).drewN j) s A n c (i + 1) ∧ One s w ((((w.drewN k).setCell ⟨s, 1, none⟩ (.int .i64 ((i : Int) + 1))).setCell ⟨s, 2, none⟩ (.int .u64 v)).drewN j)) := by
    intro k j v h0 h1
    refine ⟨⟨v, h0, h1, ?_⟩, ?_⟩
    · have := (((show Blk (w.drewN k) s _ _ from hB).store 1 (.int .i64 ((i : Int) + 1))).store 2 (.int .u64 v))
      show Blk (((w.drewN k).setCell ⟨s, 1, none⟩ (.int .i64 ((i : Int) + 1))).setCell ⟨s, 2, none⟩ (.int .u64 v)) s _ _
      simpa using this
    · exact ((((Chg.refl (fun b => b = s) w).drewN k).store (p := ⟨s, 1, none⟩) rfl _).store (p := ⟨s, 2, none⟩) rfl _).drewN j
  clear hB
  by_cases hin : i < n
  · obtain ⟨h1, h2, h3⟩ := hl
    obtain ⟨a, rfl, hlt, hc⟩ := h3 (by omega)
    have c3 := hc i (by omega)
    have b1 := h2 l[i] (List.getElem_mem _)
    generalize l[i] = x at *
    obtain ⟨b0, b1⟩ := b1
    have i0 : (0 : Int) ≤ (i : Int) := by omega
    have i1 : (i : Int) < (n : Int) := by omega
    have i2 : (i : Int) + 1 ≤ (n : Int) := by omega
    clear h1 h2 h3 hc
    go_enter Try.func65, Try.ntmps65
    go_wp2_with fail
    go_quiet (fail)
    go_wp2_with fail
    go_quiet (fail)
    go_wp2_with fail
    go_quiet (fail)
    go_wp2_with fail
    go_ret
    exact ⟨⟨x.toNat, by omega, by rw [show ((x.toNat : Nat) : Int) = x by omega]; rfl⟩, FIN.out _ _ _ (u64_lo _) (u64_hi _)⟩
  · have i1 : ¬ (i : Int) < (n : Int) := by omega
    have i2 : ¬ (i : Int) + 1 ≤ (n : Int) := by omega
    go_enter Try.func65, Try.ntmps65
    go_wp2_with fail
    go_quiet (fail)
    go_wp2_with fail
    go_quiet (fail)
    go_wp2_with fail
    go_ret
    refine ⟨?_, FIN.out _ _ _ (u64_lo _) (u64_hi _)⟩
    exact u64_byte _ (u64_lo _) (u64_hi _)

theorem SrcAt.le {w : World} {s : Nat} {A : Option Addr} {n c i : Nat} (h : SrcAt w s A n c i) : s < w.heap.size := by
  obtain ⟨seed, _, _, hB⟩ := h
  exact hB.lt
theorem SrcAt.ext {w w' : World} {s : Nat} {A : Option Addr} {n c i : Nat} (h : SrcAt w s A n c i) (hb : Below w.heap.size w w') : SrcAt w' s A n c i := by
  obtain ⟨seed, h0, h1, hB⟩ := h
  exact ⟨seed, h0, h1, hB.under hb hB.lt⟩
theorem One.bytes {s : Nat} {w w' : World} {A : Option Addr} {n : Nat} {l : List Int} {B : Nat} (h : One s w w') (hB : Below B w w') (hl : BytesAt w A n l) (hlow : ∀ a, A = some a → 0 < n → a.block < B) : BytesAt w' A n l := by
  refine ⟨hl.1, hl.2.1, fun hn => ?_⟩
  obtain ⟨a, e, hlt, hc⟩ := hl.2.2 hn
  have := hlow a e hn
  exact ⟨a, e, Nat.lt_of_lt_of_le hlt h.size, fun i hi => (hB.cell (by rw [Addr.add_block]; exact this)).trans (hc i hi)⟩

/-- A source over bytes that came in: what is kept from call to call. The source lies behind B; the bytes before. -/
structure Src (B : Nat) (w : World) (s : Nat) (A : Option Addr) (n c : Nat) (l : List Int) (i : Nat) : Prop where
  at_ : SrcAt w s A n c i
  bytes : BytesAt w A n l
  low : ∀ a, A = some a → 0 < n → a.block < B
  high : B ≤ s
theorem Src.turn {B : Nat} {w w' : World} {s : Nat} {A : Option Addr} {n c : Nat} {l : List Int} {i j : Nat} (h : Src B w s A n c l i) (ha : SrcAt w' s A n c j) (ho : One s w w') : Src B w' s A n c l j := by
  have hb : Below B w w' := ho.below (fun k hk => by subst hk; exact h.high) (by have := h.at_.le; have := h.high; omega)
  exact ⟨ha, ho.bytes hb h.bytes h.low, h.low, h.high⟩
theorem Src.ext {B : Nat} {w w' : World} {s : Nat} {A : Option Addr} {n c : Nat} {l : List Int} {i : Nat} (h : Src B w s A n c l i) (hb : Below w.heap.size w w') : Src B w' s A n c l i :=
  ⟨h.at_.ext hb, h.bytes.ext hb, h.low, h.high⟩
/-- Another block of the law's own has turned. -/
theorem Src.other {B : Nat} {w : World} {s : Nat} {A : Option Addr} {n c : Nat} {l : List Int} {i : Nat} (h : Src B w s A n c l i) {p : Addr} (hp : B ≤ p.block) (hs : s ≠ p.block) (u : Value) : Src B (w.setCell p u) s A n c l i := by
  obtain ⟨seed, h0, h1, hB⟩ := h.at_
  refine ⟨⟨seed, h0, h1, hB.apart hs u⟩, ⟨h.bytes.1, h.bytes.2.1, fun hn => ?_⟩, h.low, h.high⟩
  obtain ⟨a, e, hlt, hc⟩ := h.bytes.2.2 hn
  have hab := h.low a e hn
  refine ⟨a, e, by simpa [World.setCell] using hlt, fun i hi => ?_⟩
  have hbl : Below B w (w.setCell p u) := (Below.refl B w).setCell hp u
  exact (hbl.cell (by rw [Addr.add_block]; exact hab)).trans (hc i hi)

set_option maxHeartbeats 400000 in
theorem pick_any (B s : Nat) (A : Option Addr) (n c i : Nat) (l : List Int) (m : Int) (hm : 1 ≤ m) (hm2 : m ≤ 200) (w : World) (h : Src B w s A n c l i) (hn : n ≤ maxLen) (hi : i ≤ 1000000) :
    Calls Try.prog 36 #[.pointer (some ⟨s, 0, none⟩), .int .i64 m] w fun e w' => (∃ k : Nat, (k : Int) < m ∧ e = .returned (.int .i64 k)) ∧ (∃ j, j ≤ i + 1 ∧ Src B w' s A n c l j) ∧ One s w w' := by
  by_cases h1 : m ≤ 1
  · have H := Lib.hid h
    clear h
    go_enter Try.func36, Try.ntmps36
    go_wp2_with fail
    go_ret
    exact ⟨⟨0, by omega, rfl⟩, ⟨i, by omega, H.out⟩, Chg.refl _ _⟩
  · have NX := Lib.hid (next_any s A n c i l w h.at_ h.bytes hn hi)
    have H := Lib.hid h
    have t2 : ¬ (200 : Int) < m := by omega
    have t3 : m ≠ 0 := by omega
    clear h
    go_enter Try.func36, Try.ntmps36
    go_wp2_with fail
    refine NX.out.mono ?_
    rintro e w' ⟨⟨k, hk, rfl⟩, ha, ho⟩
    have HS := Lib.hid (H.out.turn ha ho)
    have HO := Lib.hid ho
    clear ha ho
    go_wp2_with fail
    go_ret
    refine ⟨⟨k % m.toNat, ?_, ?_⟩, ⟨i + 1, Nat.le_refl _, HS.out⟩, HO.out⟩
    · have := Nat.mod_lt k (show 0 < m.toNat by omega); omega
    · have e1 : ((k % m.toNat : Nat) : Int) = (k : Int) % m := by rw [Int.natCast_emod]; congr 1; omega
      rw [e1]; rfl
theorem one_any (B s : Nat) (A : Option Addr) (n c i : Nat) (l : List Int) (m : Int) (hm : 1 ≤ m) (hm2 : m ≤ 200) (w : World) (h : Src B w s A n c l i) (hn : n ≤ maxLen) (hi : i ≤ 1000000) :
    Calls Try.prog 66 #[.pointer (some ⟨s, 0, none⟩), .int .i64 m] w fun e w' => (∃ b : Bool, e = .returned (.bool b)) ∧ (∃ j, j ≤ i + 1 ∧ Src B w' s A n c l j) ∧ One s w w' := by
  have PK := Lib.hid (pick_any B s A n c i l m hm hm2 w h hn hi)
  clear h
  go_enter Try.func66, Try.ntmps66
  go_wp2_with fail
  refine PK.out.mono ?_
  rintro e w' ⟨⟨k, hk, rfl⟩, hj, ho⟩
  have HH := Lib.hid (And.intro hj ho)
  clear hj ho
  go_wp2_with fail
  go_ret
  exact ⟨⟨_, rfl⟩, HH.out⟩
theorem from0_any (A : Option Addr) (n c : Nat) (l : List Int) (w : World) (hl : BytesAt w A n l) :
    Calls Try.prog 35 #[.slice A n c] w fun e w' => ∃ s, e = .returned (.pointer (some ⟨s, 0, none⟩)) ∧ Src w.heap.size w' s A n c l 0 ∧ Below w.heap.size w w' := by
  have hb : Below w.heap.size w (w.alloc (.cells #[.slice A n c, .int .i64 0, .int .u64 0] 93)) := Ext.more (Ext.refl _) _
  have S0 : Src w.heap.size (w.alloc (.cells #[.slice A n c, .int .i64 0, .int .u64 0] 93)) w.heap.size A n c l 0 :=
    ⟨⟨0, by decide, by decide, Blk.made _ _ _⟩, hl.ext hb, fun a e h0 => (by obtain ⟨a', e', hlt, _⟩ := hl.2.2 h0; rw [e] at e'; cases e'; exact hlt), Nat.le_refl _⟩
  have HH := Lib.hid (And.intro S0 hb)
  clear S0 hb hl
  go_enter Try.func35, Try.ntmps35
  go_wp2_with fail
  go_ret
  exact ⟨_, rfl, HH.out⟩
end Go.Proofs.Ytkamkjbllmgifaa

namespace Go.Proofs.Ytkamkjbllmgifaa
open Go.RowKit

section
variable {B : Nat} {w : World} {s : Nat} {A : Option Addr} {n c : Nat} {l : List Int} {R g N i : Nat} {wr : World}
end

theorem inS_exG (a b c : Int) (w : World) : Calls Try.prog 62 #[.int .i64 a, .int .i64 b, .int .i64 c] w fun e w' => ∃ t : Bool, e = .returned (.bool t) ∧ w = w' :=
  (inS_any a b c w).mono fun _ _ ⟨h, k⟩ => ⟨_, h, k⟩

end Go.Proofs.Ytkamkjbllmgifaa

namespace Go.Proofs.Ytkamkjbllmgifaa
open Go.RowKit

set_option maxRecDepth 100000 in
set_option maxHeartbeats 2000000 in
theorem rowsC_any (W H n g cc : Nat) (O : Nat → Int) (w : World) (hW1 : 0 < W) (hW : W ≤ 16) (hH : H ≤ 16) (hn : n = W * H) (hc0 : n ≤ cc) (hgl : g < w.heap.size) (hB : ∀ j, j < n → w.cell? ⟨g, j, none⟩ = some (.int .i64 (O j))) :
    Calls Try.prog 48 #[.int .i64 W, .slice (some ⟨g, 0, none⟩) n cc] w fun e w' => ∃ A c vs, e = .returned (.slice A H c) ∧ MatAt w' w.heap.size w'.heap.size A c vs (gO O W H) ∧ Below w.heap.size w w' := by
  have hrow0 := World.ownsRow_lit (e := 34) (size := 1) w #[] 0 (Nat.le_refl _) (by decide) rfl
  have M0 : MatAt (w.alloc (.cells #[] 34)) w.heap.size (w.alloc (.cells #[] 34)).heap.size (some ⟨w.heap.size, 0, none⟩) 0 [] (gridI (fun x y => O (y * W + x)) W 0) := MatAt.nil _ _ _ _ _ hrow0 (fun a ha => by cases ha; simp)
  have B0 : Below w.heap.size w (w.alloc (.cells #[] 34)) := Ext.more (Ext.refl _) _
  have OX := Lib.hid (fun V (hb : Below w.heap.size w V) y (hy : y < H) => own_any ⟨g, y * W, none⟩ W (cc - y * W) (rowI (fun x y => O (y * W + x)) y W) V (rowI_length _ _ _) hW1 (by omega) (by have := hb.size; show g < V.heap.size; omega) (fun j u hu => by
    have hj : j < (ints (rowI (fun x y => O (y * W + x)) y W)).length := by
      by_cases e : j < (ints (rowI (fun x y => O (y * W + x)) y W)).length
      · exact e
      · rw [List.getElem?_eq_none (by omega)] at hu; cases hu
    have hj2 : j < W := by simpa [ints, rowI_length] using hj
    have hadd : (⟨g, y * W, none⟩ : Addr).add j = ⟨g, y * W + j, none⟩ := by unfold Addr.add; split <;> simp_all
    rw [hadd, hb.cell (p := ⟨g, y * W + j, none⟩) hgl, hB _ (by rw [hn]; exact pl_lt hj2 hy), ← hu, List.getElem?_eq_getElem hj]
    simp [ints, rowI]))
  have YB : Hid (∀ y, y < H → y * W + W ≤ n) := by
    intro y hy
    have := Nat.mul_le_mul_right W (show y + 1 ≤ H by omega)
    rw [Nat.succ_mul, Nat.mul_comm H W, ← hn] at this
    exact this
  have YE : Hid (∀ y, y ≤ H → ¬ y < H → ¬ ((y * W : Nat) : Int) < (n : Int)) := by
    intro y h1 h2
    obtain rfl : y = H := by omega
    rw [hn, Nat.mul_comm]; omega
  have nb : n ≤ 256 := by rw [hn]; exact Nat.le_trans (Nat.mul_le_mul hW hH) (by decide)
  have E : Hid (gO O W H = gridI (fun x y => O (y * W + x)) W H) := rfl
  rw [E.out]
  generalize (fun x y => O (y * W + x)) = f at *
  clear hB hrow0 hn E
  go_enter Try.func48, Try.ntmps48
  go_wp2_with fail
  generalize w.alloc (.cells #[] 34) = w0 at *
  go_loopw [5, 6] (fun o i wr => ∃ (y c : Nat) (A : Option Addr) (vs : List Value), y ≤ H ∧ i = .int .i64 ((y * W : Nat) : Int) ∧ o = .slice A y c ∧ MatAt wr w.heap.size wr.heap.size A c vs (gridI f W y) ∧ Below w.heap.size w wr) (fun _ i _ => n + 1 - (intOf i).toNat)
  case atStart => exact ⟨0, _, _, _, Nat.zero_le _, by rw [Nat.zero_mul]; rfl, rfl, M0, B0⟩
  case round =>
    obtain ⟨y, c, A, vs, hy, rfl, rfl, hm, hb⟩ := hrel
    clear M0 B0
    by_cases hlt : y < H
    · have yb := YB.out y hlt
      have OK := Lib.hid (OX.out wr hb y hlt)
      have GS := Lib.hid (gridI_succ f W y)
      have RL := Lib.hid (rowI_length f y W)
      have GL := Lib.hid (gridI_length f W y)
      have hwz := hb.size
      have YS : Hid ((y + 1) * W = y * W + W) := Nat.succ_mul _ _
      have hyl : y ≤ 16 := by omega
      have MM := Lib.hid hm
      clear hm
      generalize hyw : y * W = yw at *
      have HYW := Lib.hid hyw
      clear hyw
      have i0 : (0 : Int) ≤ (yw : Int) := by omega
      have i1 : (yw : Int) < (n : Int) := by omega
      have i2 : (yw : Int) + (W : Int) ≤ (cc : Int) := by omega
      have i3 : ((yw : Int) + (W : Int)).toNat = yw + W := by omega
      go_wp2_with fail
      refine OK.out.mono ?_
      rintro e w2 ⟨g2, c2, rfl, hrow, hb2⟩
      have hm2 := MM.out.ext hb2
      have hsz := hb2.size
      have hou := hm2.outer
      rw [GL.out] at hou
      go_wp2_with (at_builtin; refine wpList_app rowT (by rfl) _ _ (by rfl) w.heap.size (.slice A y c) y vs (by rfl) (hou.alloc _) w2.heap.size #[.slice (some ⟨g2, 0, none⟩) W c2] (by rfl) (heap_alloc_new _ _) rfl (by simp [Value.oneCell']) (by omega) (by simp; omega) ?_; intro g3 cap3 w3 hown3 hgrow3 hat3 hlt3)
      have PU : MatAt w3 w.heap.size w3.heap.size (some ⟨g3, 0, none⟩) cap3 (vs ++ [.slice (some ⟨g2, 0, none⟩) (rowI f y W).length c2]) (gridI f W y ++ [rowI f y W]) :=
        MatAt.push MM.out hb2 (by rw [RL.out]; exact hrow) hwz (Nat.le_refl _) (by rw [GL.out]; exact hgrow3) (by rw [GL.out, RL.out]; simpa using hown3)
      have B3 : Below w.heap.size w w3 := ((hb.trans (hb2.mono hwz)).alloc (by omega) _).grown hgrow3 (by simp; omega) (fun z hz => (hou.lt z hz).1)
      clear hown3 hgrow3 hat3 hou hm2 hrow
      go_wp2_with fail
      go_roundw
      case rel => exact ⟨y + 1, cap3, some ⟨g3, 0, none⟩, _, by omega, by rw [YS.out]; simp, rfl, by rw [GS.out]; exact PU, B3⟩
      case measure => simp [intOf]; omega
    · have t0 := YE.out y hy hlt
      obtain rfl : H = y := by omega
      go_wp2_with fail
      go_ret
      exact ⟨A, c, vs, rfl, hm, hb⟩


/-- A cell of a block of another type has turned. -/
theorem MatAt.beside {w : World} {lo hi : Nat} {A : Option Addr} {c : Nat} {vs : List Value} {rows : List (List Int)} (h : MatAt w lo hi A c vs rows) {g : Nat} {t : TypeId} {cs : Array Value} (hB : Blk w g t cs) (h1 : 34 ≠ t) (h2 : 2 ≠ t) (i : Nat) (u : Value) : MatAt (w.setCell ⟨g, i, none⟩ u) lo hi A c vs rows := by
  have one : ∀ {e : TypeId} {v : Value} {n : Nat} {xs : List Value}, e ≠ t → w.ownsRow lo e 1 v n xs → (w.setCell ⟨g, i, none⟩ u).ownsRow lo e 1 v n xs := by
    intro e v n xs he ho
    exact ((Chg.refl (fun b => b = g) w).store (p := ⟨g, i, none⟩) rfl u).own ho (fun b hb e2 => own_blk_ne ho hB he (by rw [hb, e2]))
  refine ⟨one h1 h.outer, h.top, fun j hj => ?_, h.apart⟩
  obtain ⟨Ai, ci, a1, a2, a3⟩ := h.row j hj
  exact ⟨Ai, ci, a1, one h2 a2, a3⟩

theorem own_cap {w : World} {base : Nat} {e : TypeId} {size g n cap : Nat} {xs : List Value} (h : w.ownsRow base e size (.slice (some ⟨g, 0, none⟩) n cap) n xs) : n ≤ cap := by
  rcases h.2 with ⟨h', _⟩ | ⟨g', cap', cur, h', _, _, hnc, _⟩
  · simp at h'
  · simp only [Value.slice.injEq, Option.some.injEq, Addr.mk.injEq, and_true, true_and] at h'
    obtain ⟨rfl, rfl⟩ := h'
    exact hnc
theorem Chg.of_grown {w w' : World} {row : Option Nat} {B : Nat} (h : w.grownBy w' row) (hr : ∀ z, row = some z → B ≤ z) : Chg (fun b => B ≤ b) w w' :=
  ⟨h.os, h.tape, h.output, h.size, fun k hk hs => h.block k hk (fun e => hs (hr k e.symm))⟩
theorem Src.grown {B : Nat} {w w' : World} {s : Nat} {A : Option Addr} {n c : Nat} {l : List Int} {i : Nat} {row : Option Nat} (h : Src B w s A n c l i) (hg : w.grownBy w' row) (hs : some s ≠ row) (hr : ∀ z, row = some z → B ≤ z) (hB : B ≤ w.heap.size) : Src B w' s A n c l i := by
  obtain ⟨seed, h0, h1, hBk⟩ := h.at_
  refine ⟨⟨seed, h0, h1, hBk.by_grown hg hs⟩, ⟨h.bytes.1, h.bytes.2.1, fun hn => ?_⟩, h.low, h.high⟩
  obtain ⟨a, e, hlt, hc⟩ := h.bytes.2.2 hn
  have hab := h.low a e hn
  refine ⟨a, e, Nat.lt_of_lt_of_le hlt hg.size, fun i hi => ?_⟩
  have hbl : Below B w w' := (Below.refl B w).grown hg hB hr
  exact (hbl.cell (by rw [Addr.add_block]; exact hab)).trans (hc i hi)
/-- A list laid in rows is right. -/
theorem gO_ok {O : Nat → Int} {W H : Nat} (hW0 : 0 < W) (hW : W ≤ 16) (hH0 : 0 < H) (hH : H ≤ 16) (h : ∀ i, i < W * H → 0 ≤ O i ∧ O i ≤ 99) : greyOk (gO O W H) = true := by
  refine tab_yes (by simp only [tabSz, Bool.and_eq_true, inB_iff, tabW_gO O hH0, gO_length]; omega) (fun j hj => ?_)
  have hj' : j < H := by rw [gO_length] at hj; exact hj
  simp only [rowN, Bool.and_eq_true, decide_eq_true_eq, List.all_eq_true, inB_iff, tabW_gO O hH0]
  refine ⟨gO_w O W H j hj, fun n hn => ?_⟩
  rw [gO_row O W H j hj] at hn
  obtain ⟨x, hx, rfl⟩ := List.mem_map.1 hn
  exact h _ (pl_lt (List.mem_range.1 hx) hj')

set_option maxRecDepth 100000 in
set_option maxHeartbeats 2000000 in
theorem drawSized_any (B s : Nat) (A : Option Addr) (n c i : Nat) (l : List Int) (W H most : Nat) (w : World) (hS : Src B w s A n c l i) (hn : n ≤ maxLen) (hi : i ≤ 100) (hW0 : 0 < W) (hW : W ≤ 16) (hH : H ≤ 16) (hm : most ≤ 98) :
    Calls Try.prog 37 #[.pointer (some ⟨s, 0, none⟩), .int .i64 W, .int .i64 H, .int .i64 most] w fun e w' => ∃ A' c' vs O, e = .returned (.agg #[.slice A' H c']) ∧ (∀ i, i < W * H → 0 ≤ O i ∧ O i ≤ 99) ∧ MatAt w' w.heap.size w'.heap.size A' c' vs (gO O W H) ∧ Chg (fun b => b = s ∨ w.heap.size ≤ b) w w' := by
  have hWH : W * H ≤ 256 := Nat.le_trans (Nat.mul_le_mul hW hH) (by decide)
  have R0 : Blk ((w.alloc (.cells #[.slice none 0 0] 26)).alloc (.cells #[] 2)) w.heap.size 26 #[.slice none 0 0] := (Blk.made _ _ _).more _
  have hrow0 := World.ownsRow_lit (e := 2) (size := 1) (w.alloc (.cells #[.slice none 0 0] 26)) #[] 0 (Nat.le_refl _) (by decide) rfl
  simp only [World.size_alloc] at hrow0
  have BB : Below w.heap.size w ((w.alloc (.cells #[.slice none 0 0] 26)).alloc (.cells #[] 2)) := Ext.more (Ext.more (Ext.refl _) _) _
  have S1 := hS.ext BB
  have C1 : Chg (fun b => b = s ∨ w.heap.size ≤ b) w ((w.alloc (.cells #[.slice none 0 0] 26)).alloc (.cells #[] 2)) := (Chg.of_below BB).mono (fun b h => .inr h)
  have sl := hS.at_.le
  have sh := hS.high
  have jn : IntKind.i64.wrap ((W : Int) * H) = ((W * H : Nat) : Int) := by rw [show (W : Int) * H = ((W * H : Nat) : Int) by simp]; exact IntWalk.i64_in _ (by omega)
  have jm : IntKind.i64.wrap ((most : Int) + 1) = ((most + 1 : Nat) : Int) := by rw [show (most : Int) + 1 = ((most + 1 : Nat) : Int) by simp]; exact IntWalk.i64_in _ (by omega)
  have z0 : ((w.alloc (.cells #[.slice none 0 0] 26)).alloc (.cells #[] 2)).heap.size = w.heap.size + 2 := by simp
  clear hS BB
  go_enter Try.func37, Try.ntmps37
  go_wp2_with fail
  generalize (w.alloc (.cells #[.slice none 0 0] 26)).alloc (.cells #[] 2) = w1 at *
  refine (one_any B s A n c i l 2 (by decide) (by decide) w1 S1 hn (by omega)).mono ?_
  rintro e w2 ⟨⟨calm, rfl⟩, ⟨j, hj, S2⟩, ho⟩
  have R2 := ho.blk R0 (fun e => by omega)
  have O2 := ho.own hrow0 (fun g hg e => by have := (hrow0.lt g hg).1; omega)
  have C2 := C1.trans (ho.mono (fun b hb => .inl hb))
  clear S1 R0 hrow0 C1 ho z0
  go_wp2_with fail
  go_loopw [9, 11, 12] (fun v iv _ wr => ∃ (k gb cb j : Nat) (ns : List Int), k ≤ W * H ∧ iv = .int .i64 k ∧ v = .slice (some ⟨gb, 0, none⟩) k cb ∧ ns.length = k ∧ (∀ m ∈ ns, 0 ≤ m ∧ m ≤ 99) ∧ Blk wr w.heap.size 26 #[.slice none 0 0] ∧
    wr.ownsRow (w.heap.size + 1) 2 1 (.slice (some ⟨gb, 0, none⟩) k cb) k (ints ns) ∧ j ≤ 200 + 2 * k ∧ Src B wr s A n c l j ∧ Chg (fun b => b = s ∨ w.heap.size ≤ b) w wr) (fun _ iv _ _ => W * H - (intOf iv).toNat)
  case atStart => exact ⟨0, _, 0, j, [], Nat.zero_le _, rfl, rfl, rfl, by simp, R2, O2, by omega, S2, C2⟩
  case round =>
    obtain ⟨k, gb, cb, j2, ns, hk, rfl, rfl, hnl, hns, hR, hown, hj2, hS2, hC⟩ := hrel
    clear R2 O2 S2 C2
    by_cases hlt : k < W * H
    · go_wp2_with fail
      refine (pick_any B s A n c j2 l ((most + 1 : Nat) : Int) (by omega) (by omega) wr hS2 hn (by omega)).mono ?_
      rintro e w3 ⟨⟨k3, hk3, rfl⟩, ⟨j3, hj3, S3⟩, ho⟩
      have R3 := ho.blk hR (fun e => by omega)
      have O3 := ho.own hown (fun g hg e => by have := (hown.lt g hg).1; omega)
      have C3 := hC.trans (ho.mono (fun b hb => .inl hb))
      have hk4 : (k3 : Int) ≤ 99 := by omega
      clear hS2 hR hown hC ho hk3
      go_upto_region 7 with fail
      go_cut [36] (fun s36 wx => ∃ (t : Bool) (j4 : Nat), s36 = .bool t ∧ (t = true → 0 < k) ∧ j4 ≤ 200 + 2 * (k + 1) ∧ Blk wx w.heap.size 26 #[.slice none 0 0] ∧
        wx.ownsRow (w.heap.size + 1) 2 1 (.slice (some ⟨gb, 0, none⟩) k cb) k (ints ns) ∧ Src B wx s A n c l j4 ∧ Chg (fun b => b = s ∨ w.heap.size ≤ b) w wx)
      case first =>
        cases calm
        · go_wp2_with fail
          go_meet
          exact ⟨false, j3, rfl, by simp, by omega, R3, O3, S3, C3⟩
        · by_cases hk0 : k = 0
          · have t0 : ¬ ((0 : Int) < (k : Int)) := by omega
            clear hk0
            go_wp2_with fail
            go_meet
            exact ⟨false, j3, rfl, by simp, by omega, R3, O3, S3, C3⟩
          · have t0 : (0 : Int) < (k : Int) := by omega
            go_wp2_with fail
            refine (one_any B s A n c j3 l 3 (by decide) (by decide) w3 S3 hn (by omega)).mono ?_
            rintro e w4 ⟨⟨b, rfl⟩, ⟨j4, hj4, S4⟩, ho⟩
            have R4 := ho.blk R3 (fun e => by omega)
            have O4 := ho.own O3 (fun g hg e => by have := (O3.lt g hg).1; omega)
            have C4 := C3.trans (ho.mono (fun b hb => .inl hb))
            go_wp2_with fail
            go_meet
            exact ⟨!b, j4, rfl, fun _ => by omega, by omega, R4, O4, S4, C4⟩
      case rest =>
        obtain ⟨t, j4, rfl, ht, hj4, R4, O4, S4, C4⟩ := hcut
        obtain ⟨w4, rfl⟩ : ∃ w4 : World, w4 = wc := ⟨_, rfl⟩
        clear R3 O3 S3 C3
        have gl := O4.lt gb rfl
        cases t
        case' false =>
          obtain ⟨v, hv⟩ : ∃ v : Int, v = k3 := ⟨_, rfl⟩
          have vb : 0 ≤ v ∧ v ≤ 99 := by omega
          rw [← hv]
          clear hv hk4
          go_upto_region 9 with fail
        case' true =>
          have hk0 := ht rfl
          obtain ⟨v, hv⟩ : ∃ v : Int, ns[k - 1] = v := ⟨_, rfl⟩
          have vb : 0 ≤ v ∧ v ≤ 99 := by rw [← hv]; exact hns _ (List.getElem_mem _)
          have cv : w4.cell? ⟨gb, k - 1, none⟩ = some (.int .i64 v) := by
            rw [O4.cellAt (k - 1) (by omega), ← hv]; simp [ints, show k - 1 < ns.length by omega]
          obtain ⟨k1, hk1⟩ : ∃ k1, k1 = k - 1 := ⟨_, rfl⟩
          have jk : IntKind.i64.wrap ((k : Int) - 1) = (k1 : Int) := by rw [hk1, show (k : Int) - 1 = ((k - 1 : Nat) : Int) by omega]; exact IntWalk.i64_in _ (by omega)
          have q0 : (0 : Int) ≤ (k1 : Int) := by omega
          have q1 : (k1 : Int) < (k : Int) := by omega
          rw [← hk1] at cv
          clear hv hk4 hk1
          go_upto_region 9 with fail
        all_goals
          have hsz := C4.size
          have hl4 : w.heap.size < w4.heap.size := R4.lt
          have S5 := Lib.hid (S4.ext (Ext.more (Ext.refl _) (.cells #[.int .i64 v] 2)))
          have C5 := Lib.hid (C4.trans ((Chg.of_below (Ext.more (Ext.refl w4) (.cells #[.int .i64 v] 2))).mono (fun b hb => .inr (by omega))))
          have R5 := Lib.hid (R4.more (.cells #[.int .i64 v] 2))
          clear S4 C4
          go_wp2_with (at_builtin; refine wpList_app intT (by rfl) _ _ (by rfl) (w.heap.size + 1) (.slice (some ⟨gb, 0, none⟩) k cb) k (ints ns) (by rfl) (O4.alloc _) w4.heap.size #[.int .i64 v] (by rfl) (heap_alloc_new _ _) rfl (by simp [Value.oneCell']) (by omega) (by simp; omega) ?_; intro g3 cap3 w8 hown3 hgrow3 hat3 hlt3)
          have gC : Chg (fun b => w.heap.size ≤ b) (w4.alloc (.cells #[.int .i64 v] 2)) w8 := Chg.of_grown hgrow3 (fun z hz => by have := Option.some.inj (show some gb = some z from hz); omega)
          have S9 := S5.out.grown hgrow3 (fun e => by have := Option.some.inj (show some s = some gb from e); omega) (fun z hz => by have := Option.some.inj (show some gb = some z from hz); omega) (by simp; omega)
          have R9 := R5.out.by_grown hgrow3 (fun e => by have := Option.some.inj (show some w.heap.size = some gb from e); omega)
          go_roundw
          case rel =>
            refine ⟨k + 1, g3, cap3, j4, ns ++ [v], by omega, by go_num, rfl, by simp [hnl], fun m hm => ?_, R9, by simpa [ints] using hown3, by omega, S9, C5.out.trans (gC.mono fun b hb => .inr hb)⟩
            rcases List.mem_append.1 hm with h | h
            · exact hns m h
            · simp at h; subst h; exact vb
          case measure => simp [intOf]; omega
    · obtain rfl : k = W * H := by omega
      have RW := Lib.hid (rowsC_any W H (W * H) gb cb (fun i => ns.getD i 0) wr hW0 hW hH rfl (own_cap hown) (hown.lt gb rfl).2 (fun j hj => by rw [hown.cellAt j (by omega)]; simp [ints, List.getD_eq_getElem?_getD, show j < ns.length by omega]))
      have hb : ∀ i, i < W * H → 0 ≤ ns.getD i 0 ∧ ns.getD i 0 ≤ 99 := fun i hi => by
        rw [List.getD_eq_getElem?_getD, List.getElem?_eq_getElem (by omega), Option.getD_some]; exact hns _ (List.getElem_mem _)
      have hl4 : w.heap.size < wr.heap.size := hR.lt
      have zC := hC.size
      clear hS2 hown
      go_wp2_with fail
      refine RW.out.mono ?_
      rintro e w5 ⟨A5, c5, vs5, rfl, hm5, hb5⟩
      have R5 := hR.under hb5 hR.lt
      have c0 := R5.cell 0
      have f0 := R5.free 0
      have cs := (R5.store 0 (.slice A5 H c5)).cell 0
      simp at c0 cs
      have hz : (w5.setCell ⟨w.heap.size, 0, none⟩ (.slice A5 H c5)).heap.size = w5.heap.size := by simp [World.setCell]
      have MR := Lib.hid ((hm5.beside R5 (by decide) (by decide) 0 (.slice A5 H c5)).low (lo' := w.heap.size) (hi' := (w5.setCell ⟨w.heap.size, 0, none⟩ (.slice A5 H c5)).heap.size) (by omega) (by rw [hz]; exact Nat.le_refl _))
      clear hz
      have CC := Lib.hid ((hC.trans ((Chg.of_below hb5).mono (fun b h => .inr (by omega)))).store (p := ⟨w.heap.size, 0, none⟩) (.inr (Nat.le_refl _)) (.slice A5 H c5))
      clear hm5 RW
      go_wp2_with fail
      refine bodyPost_ret (v := .agg #[.slice A5 H c5]) (by simp [results, Try.results37, go_sem, cs]) rfl ⟨A5, c5, vs5, _, rfl, hb, MR.out, CC.out⟩
set_option maxRecDepth 100000 in
set_option maxHeartbeats 1000000 in
theorem b10Grey_any (A : Option Addr) (n c : Nat) (l : List Int) (w : World) (hl : BytesAt w A n l) (hn : n ≤ maxLen) :
    Calls Try.prog 10 #[.slice A n c] w fun e w' => ∃ A c O W H, e = .returned (.agg #[.slice A H c]) ∧ 0 < W ∧ W ≤ 6 ∧ 0 < H ∧ H ≤ 6 ∧ (∀ i, i < W * H → 0 ≤ O i ∧ O i ≤ 99) ∧ MatRd w' A (gO O W H) ∧ Below w.heap.size w w' := by
  have F0 := Lib.hid (from0_any A n c l (w.alloc (.cells #[.slice none 0 0] 26)) (hl.ext (Ext.more (Ext.refl _) _)))
  have R0 := Blk.made w 26 #[.slice none 0 0]
  have B0 : Below w.heap.size w (w.alloc (.cells #[.slice none 0 0] 26)) := Ext.more (Ext.refl _) _
  clear hl
  go_enter Try.func10, Try.ntmps10
  go_wp2_with fail
  refine F0.out.mono ?_
  rintro e w1 ⟨s, rfl, S1, hb1⟩
  replace R0 := R0.under hb1 R0.lt
  replace B0 := Ext.then_ B0 hb1
  simp only [World.size_alloc] at S1
  clear hb1
  go_wp2_with fail
  refine (pick_any _ s A n c 0 l 6 (by decide) (by decide) w1 S1 hn (by omega)).mono ?_
  rintro e w2 ⟨⟨k, hk, rfl⟩, ⟨j, hj, S2⟩, ho⟩
  have hsw := S1.high
  replace R0 := ho.blk R0 (fun e => by omega)
  replace B0 := B0.trans (ho.below (fun b hb => by subst hb; omega) (by have := R0.lt; have := ho.size; have := B0.size; omega))
  clear S1 ho
  go_wp2_with fail
  refine (pick_any _ s A n c j l 6 (by decide) (by decide) w2 S2 hn (by omega)).mono ?_
  rintro e w3 ⟨⟨k2, hk2, rfl⟩, ⟨j2, hj2, S3⟩, ho⟩
  replace R0 := ho.blk R0 (fun e => by omega)
  replace B0 := B0.trans (ho.below (fun b hb => by subst hb; omega) (by have := R0.lt; have := ho.size; have := B0.size; omega))
  clear S2 ho
  obtain ⟨W, hWd⟩ : ∃ W, k + 1 = W := ⟨_, rfl⟩
  obtain ⟨H, hHt⟩ : ∃ H, k2 + 1 = H := ⟨_, rfl⟩
  have e1 : (1 : Int) + (k : Int) = (W : Int) := by omega
  have e2 : (1 : Int) + (k2 : Int) = (H : Int) := by omega
  have hW0 : 0 < W := by omega
  have hW : W ≤ 6 := by omega
  have hH0 : 0 < H := by omega
  have hH : H ≤ 6 := by omega
  rw [e1]
  go_wp2_with fail
  try rw [e2]
  refine (pick_any _ s A n c j2 l 8 (by decide) (by decide) w3 S3 hn (by omega)).mono ?_
  rintro e w4 ⟨⟨k3, hk3, rfl⟩, ⟨j3, hj3, S4⟩, ho⟩
  replace R0 := ho.blk R0 (fun e => by omega)
  replace B0 := B0.trans (ho.below (fun b hb => by subst hb; omega) (by have := R0.lt; have := ho.size; have := B0.size; omega))
  clear S3 ho
  obtain ⟨M, hM⟩ : ∃ M, k3 + 1 = M := ⟨_, rfl⟩
  have e3 : (1 : Int) + (k3 : Int) = (M : Int) := by omega
  have DR := Lib.hid (drawSized_any _ s A n c j3 l W H M w4 S4 hn (by omega) hW0 (by omega) (by omega) (by omega))
  have z4 := R0.lt
  go_wp2_with fail
  clear hWd hHt hM e1 e2 e3 hk hk2 hk3
  refine DR.out.mono ?_
  rintro e w5 ⟨A5, c5, vs5, O, rfl, hO, hm5, ch⟩
  have y4 := B0.size
  replace R0 := ch.blk R0 (fun e => by omega)
  replace B0 := B0.trans (ch.below (fun b hb => by omega) (by omega))
  have c0 := R0.cell 0
  have f0 := R0.free 0
  have cs := (R0.store 0 (.slice A5 H c5)).cell 0
  simp at c0 cs
  have HM := Lib.hid ((hm5.beside R0 (by decide) (by decide) 0 (.slice A5 H c5)).rd)
  clear hm5 S4 DR
  go_wp2_with fail
  refine bodyPost_ret (v := .agg #[.slice A5 H c5]) (by simp [results, Try.results10, go_sem, cs]) rfl ⟨A5, c5, O, W, H, rfl, hW0, hW, hH0, hH, hO, ?_, ?_⟩
  · exact HM.out
  · exact B0.setCell (p := ⟨w.heap.size, 0, none⟩) (Nat.le_refl _) _
end Go.Proofs.Ytkamkjbllmgifaa
