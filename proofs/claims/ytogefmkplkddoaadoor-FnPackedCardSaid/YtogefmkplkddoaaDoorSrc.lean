/- The reference's source of choices. -/
import Derived.Test.YtogefmkplkddoaaDoorBytes
import Derived.Test.YtogefmkplkddoaaDoorEq
import Derived.BigQuiet
import Derived.IntWalk
import Derived.Laws.BitsLemmas
import Derived.Laws.Bits64
namespace Go.Proofs.YtogefmkplkddoaaDoor
open Go.RowKit

/-- A source that has been asked at times. -/
def SrcAt (w : World) (s : Nat) (A : Option Addr) (n c : Nat) (i : Nat) : Prop :=
  ∃ seed : Int, 0 ≤ seed ∧ seed < 18446744073709551616 ∧ Blk w s 106 #[.slice A n c, .int .i64 i, .int .u64 seed]
/-- Block s alone has turned. -/
def One (s : Nat) (w w' : World) : Prop := Chg (fun b => b = s) w w'

theorem u64_lo (x : Int) : 0 ≤ IntKind.u64.wrap x := by
  have h : IntKind.u64.wrap x = x % 18446744073709551616 := by simp [IntKind.wrap, IntKind.signed, IntKind.bits]
  rw [h]; omega
theorem u64_hi (x : Int) : IntKind.u64.wrap x < 18446744073709551616 := by
  have h : IntKind.u64.wrap x = x % 18446744073709551616 := by simp [IntKind.wrap, IntKind.signed, IntKind.bits]
  rw [h]; omega

theorem u64_small (n : Int) (h0 : 0 ≤ n) (h1 : n < 2 ^ 63) : IntKind.u64.wrap n = n := by rw [IntKind.wrap_u64]; omega
theorem u64_byte (x : Int) (h : 0 ≤ x) (h2 : x < 18446744073709551616) : ∃ k : Nat, k ≤ 255 ∧ Ending.returned (Value.int .i64 (wrap64 (bits .and .u64 (x / 1099511627776) 255))) = .returned (.int .i64 k) := by
  obtain ⟨m, hm⟩ : ∃ m : Nat, x / 1099511627776 = m := ⟨(x / 1099511627776).toNat, by omega⟩
  rw [hm]
  have hb := (bits_nat .u64 63 (by decide) u64_small m 255 (by omega) (by decide)).1
  have hle : m &&& 255 ≤ 255 := Nat.and_le_right
  refine ⟨m &&& 255, hle, ?_⟩
  have e : ((255 : Nat) : Int) = 255 := rfl
  rw [e] at hb
  rw [hb]
  generalize m &&& 255 = q at *
  rw [IntWalk.wrap64_in _ (by omega)]

set_option maxRecDepth 100000 in
set_option maxHeartbeats 400000 in
theorem next_any (s : Nat) (A : Option Addr) (n c i : Nat) (l : List Int) (w : World) (h : SrcAt w s A n c i) (hl : BytesAt w A n l) (hn : n ≤ maxLen) (hi : i ≤ 1000000) :
    Calls Tryd.prog 79 #[.pointer (some ⟨s, 0, none⟩)] w fun e w' => (∃ k : Nat, k ≤ 255 ∧ e = .returned (.int .i64 k)) ∧ SrcAt w' s A n c (i + 1) ∧ One s w w' := by
  unfold maxLen at hn
  obtain ⟨seed, hs0, hs1, hB⟩ := h
  have c0 := hB.cell 0
  have c1 := hB.cell 1
  have c2 := hB.cell 2
  simp at c0 c1 c2
  have f1 := hB.free 1
  have f2 := hB.free 2
  have e1 : ∀ (k : Nat) (u v : Value), (((w.drewN k).setCell ⟨s, 1, none⟩ u).setCell ⟨s, 2, none⟩ v).cell? ⟨s, 1, none⟩ = some u := by
    intro k u v
    have := (((show Blk (w.drewN k) s _ _ from hB).store 1 u).store 2 v).cell 1
    simpa using this
  have e0 : ∀ (k : Nat) (u v : Value), (((w.drewN k).setCell ⟨s, 1, none⟩ u).setCell ⟨s, 2, none⟩ v).cell? ⟨s, 0, none⟩ = some (.slice A n c) := by
    intro k u v
    have := (((show Blk (w.drewN k) s _ _ from hB).store 1 u).store 2 v).cell 0
    simpa using this
  have e2 : ∀ (k : Nat) (u v : Value), (((w.drewN k).setCell ⟨s, 1, none⟩ u).setCell ⟨s, 2, none⟩ v).cell? ⟨s, 2, none⟩ = some v := by
    intro k u v
    have := (((show Blk (w.drewN k) s _ _ from hB).store 1 u).store 2 v).cell 2
    simpa using this
  have FIN : Hid (∀ (k j : Nat) (v : Int), 0 ≤ v → v < 18446744073709551616 → SrcAt ((((w.drewN k).setCell ⟨s, 1, none⟩ (.int .i64 ((i : Int) + 1))).setCell ⟨s, 2, none⟩ (.int .u64 v)).drewN j) s A n c (i + 1) ∧ One s w ((((w.drewN k).setCell ⟨s, 1, none⟩ (.int .i64 ((i : Int) + 1))).setCell ⟨s, 2, none⟩ (.int .u64 v)).drewN j)) := by
    intro k j v h0 h1
    refine ⟨⟨v, h0, h1, ?_⟩, ?_⟩
    · have := (((show Blk (w.drewN k) s _ _ from hB).store 1 (.int .i64 ((i : Int) + 1))).store 2 (.int .u64 v))
      show Blk (((w.drewN k).setCell ⟨s, 1, none⟩ (.int .i64 ((i : Int) + 1))).setCell ⟨s, 2, none⟩ (.int .u64 v)) s _ _
      simpa using this
    · exact ((((Chg.refl (fun b => b = s) w).drewN k).store (p := ⟨s, 1, none⟩) rfl _).store (p := ⟨s, 2, none⟩) rfl _).drewN j
  clear hB
  by_cases hin : i < n
  · obtain ⟨h1, h2, h3⟩ := hl
    obtain ⟨a, rfl, hlt, hc⟩ := h3 (by omega)
    have c3 := hc i (by omega)
    have b1 := h2 l[i] (List.getElem_mem _)
    generalize l[i] = x at *
    obtain ⟨b0, b1⟩ := b1
    have i0 : (0 : Int) ≤ (i : Int) := by omega
    have i1 : (i : Int) < (n : Int) := by omega
    have i2 : (i : Int) + 1 ≤ (n : Int) := by omega
    clear h1 h2 h3 hc
    go_enter Tryd.func79, Tryd.ntmps79
    go_wp2_with fail
    go_quiet (fail)
    go_wp2_with fail
    go_quiet (fail)
    go_wp2_with fail
    go_quiet (fail)
    go_wp2_with fail
    go_ret
    exact ⟨⟨x.toNat, by omega, by rw [show ((x.toNat : Nat) : Int) = x by omega]; rfl⟩, FIN.out _ _ _ (u64_lo _) (u64_hi _)⟩
  · have i1 : ¬ (i : Int) < (n : Int) := by omega
    have i2 : ¬ (i : Int) + 1 ≤ (n : Int) := by omega
    go_enter Tryd.func79, Tryd.ntmps79
    go_wp2_with fail
    go_quiet (fail)
    go_wp2_with fail
    go_quiet (fail)
    go_wp2_with fail
    go_ret
    refine ⟨?_, FIN.out _ _ _ (u64_lo _) (u64_hi _)⟩
    exact u64_byte _ (u64_lo _) (u64_hi _)

theorem SrcAt.le {w : World} {s : Nat} {A : Option Addr} {n c i : Nat} (h : SrcAt w s A n c i) : s < w.heap.size := by
  obtain ⟨seed, _, _, hB⟩ := h
  exact hB.lt
theorem SrcAt.ext {w w' : World} {s : Nat} {A : Option Addr} {n c i : Nat} (h : SrcAt w s A n c i) (hb : Below w.heap.size w w') : SrcAt w' s A n c i := by
  obtain ⟨seed, h0, h1, hB⟩ := h
  exact ⟨seed, h0, h1, hB.under hb hB.lt⟩
theorem One.bytes {s : Nat} {w w' : World} {A : Option Addr} {n : Nat} {l : List Int} {B : Nat} (h : One s w w') (hB : Below B w w') (hl : BytesAt w A n l) (hlow : ∀ a, A = some a → 0 < n → a.block < B) : BytesAt w' A n l := by
  refine ⟨hl.1, hl.2.1, fun hn => ?_⟩
  obtain ⟨a, e, hlt, hc⟩ := hl.2.2 hn
  have := hlow a e hn
  exact ⟨a, e, Nat.lt_of_lt_of_le hlt h.size, fun i hi => (hB.cell (by rw [Addr.add_block]; exact this)).trans (hc i hi)⟩

/-- A source over bytes that came in: what is kept from call to call. The source lies behind B; the bytes before. -/
structure Src (B : Nat) (w : World) (s : Nat) (A : Option Addr) (n c : Nat) (l : List Int) (i : Nat) : Prop where
  at_ : SrcAt w s A n c i
  bytes : BytesAt w A n l
  low : ∀ a, A = some a → 0 < n → a.block < B
  high : B ≤ s
theorem Src.turn {B : Nat} {w w' : World} {s : Nat} {A : Option Addr} {n c : Nat} {l : List Int} {i j : Nat} (h : Src B w s A n c l i) (ha : SrcAt w' s A n c j) (ho : One s w w') : Src B w' s A n c l j := by
  have hb : Below B w w' := ho.below (fun k hk => by subst hk; exact h.high) (by have := h.at_.le; have := h.high; omega)
  exact ⟨ha, ho.bytes hb h.bytes h.low, h.low, h.high⟩
theorem Src.ext {B : Nat} {w w' : World} {s : Nat} {A : Option Addr} {n c : Nat} {l : List Int} {i : Nat} (h : Src B w s A n c l i) (hb : Below w.heap.size w w') : Src B w' s A n c l i :=
  ⟨h.at_.ext hb, h.bytes.ext hb, h.low, h.high⟩
/-- Another block of the law's own has turned. -/
theorem Src.other {B : Nat} {w : World} {s : Nat} {A : Option Addr} {n c : Nat} {l : List Int} {i : Nat} (h : Src B w s A n c l i) {p : Addr} (hp : B ≤ p.block) (hs : s ≠ p.block) (u : Value) : Src B (w.setCell p u) s A n c l i := by
  obtain ⟨seed, h0, h1, hB⟩ := h.at_
  refine ⟨⟨seed, h0, h1, hB.apart hs u⟩, ⟨h.bytes.1, h.bytes.2.1, fun hn => ?_⟩, h.low, h.high⟩
  obtain ⟨a, e, hlt, hc⟩ := h.bytes.2.2 hn
  have hab := h.low a e hn
  refine ⟨a, e, by simpa [World.setCell] using hlt, fun i hi => ?_⟩
  have hbl : Below B w (w.setCell p u) := (Below.refl B w).setCell hp u
  exact (hbl.cell (by rw [Addr.add_block]; exact hab)).trans (hc i hi)

set_option maxHeartbeats 400000 in
theorem pick_any (B s : Nat) (A : Option Addr) (n c i : Nat) (l : List Int) (m : Int) (hm : 1 ≤ m) (hm2 : m ≤ 200) (w : World) (h : Src B w s A n c l i) (hn : n ≤ maxLen) (hi : i ≤ 1000000) :
    Calls Tryd.prog 43 #[.pointer (some ⟨s, 0, none⟩), .int .i64 m] w fun e w' => (∃ k : Nat, (k : Int) < m ∧ e = .returned (.int .i64 k)) ∧ (∃ j, j ≤ i + 1 ∧ Src B w' s A n c l j) ∧ One s w w' := by
  by_cases h1 : m ≤ 1
  · have H := Lib.hid h
    clear h
    go_enter Tryd.func43, Tryd.ntmps43
    go_wp2_with fail
    go_ret
    exact ⟨⟨0, by omega, rfl⟩, ⟨i, by omega, H.out⟩, Chg.refl _ _⟩
  · have NX := Lib.hid (next_any s A n c i l w h.at_ h.bytes hn hi)
    have H := Lib.hid h
    have t2 : ¬ (200 : Int) < m := by omega
    have t3 : m ≠ 0 := by omega
    clear h
    go_enter Tryd.func43, Tryd.ntmps43
    go_wp2_with fail
    refine NX.out.mono ?_
    rintro e w' ⟨⟨k, hk, rfl⟩, ha, ho⟩
    have HS := Lib.hid (H.out.turn ha ho)
    have HO := Lib.hid ho
    clear ha ho
    go_wp2_with fail
    go_ret
    refine ⟨⟨k % m.toNat, ?_, ?_⟩, ⟨i + 1, Nat.le_refl _, HS.out⟩, HO.out⟩
    · have := Nat.mod_lt k (show 0 < m.toNat by omega); omega
    · have e1 : ((k % m.toNat : Nat) : Int) = (k : Int) % m := by rw [Int.natCast_emod]; congr 1; omega
      rw [e1]; rfl
theorem one_any (B s : Nat) (A : Option Addr) (n c i : Nat) (l : List Int) (m : Int) (hm : 1 ≤ m) (hm2 : m ≤ 200) (w : World) (h : Src B w s A n c l i) (hn : n ≤ maxLen) (hi : i ≤ 1000000) :
    Calls Tryd.prog 94 #[.pointer (some ⟨s, 0, none⟩), .int .i64 m] w fun e w' => (∃ b : Bool, e = .returned (.bool b)) ∧ (∃ j, j ≤ i + 1 ∧ Src B w' s A n c l j) ∧ One s w w' := by
  have PK := Lib.hid (pick_any B s A n c i l m hm hm2 w h hn hi)
  clear h
  go_enter Tryd.func94, Tryd.ntmps94
  go_wp2_with fail
  refine PK.out.mono ?_
  rintro e w' ⟨⟨k, hk, rfl⟩, hj, ho⟩
  have HH := Lib.hid (And.intro hj ho)
  clear hj ho
  go_wp2_with fail
  go_ret
  exact ⟨⟨_, rfl⟩, HH.out⟩
theorem from0_any (A : Option Addr) (n c : Nat) (l : List Int) (w : World) (hl : BytesAt w A n l) :
    Calls Tryd.prog 42 #[.slice A n c] w fun e w' => ∃ s, e = .returned (.pointer (some ⟨s, 0, none⟩)) ∧ Src w.heap.size w' s A n c l 0 ∧ Below w.heap.size w w' := by
  have hb : Below w.heap.size w (w.alloc (.cells #[.slice A n c, .int .i64 0, .int .u64 0] 106)) := Ext.more (Ext.refl _) _
  have S0 : Src w.heap.size (w.alloc (.cells #[.slice A n c, .int .i64 0, .int .u64 0] 106)) w.heap.size A n c l 0 :=
    ⟨⟨0, by decide, by decide, Blk.made _ _ _⟩, hl.ext hb, fun a e h0 => (by obtain ⟨a', e', hlt, _⟩ := hl.2.2 h0; rw [e] at e'; cases e'; exact hlt), Nat.le_refl _⟩
  have HH := Lib.hid (And.intro S0 hb)
  clear S0 hb hl
  go_enter Tryd.func42, Tryd.ntmps42
  go_wp2_with fail
  go_ret
  exact ⟨_, rfl, HH.out⟩
end Go.Proofs.YtogefmkplkddoaaDoor
