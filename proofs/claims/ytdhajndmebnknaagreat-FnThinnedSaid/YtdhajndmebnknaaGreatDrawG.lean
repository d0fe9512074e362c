/- The reference's source of choices. A drawn picture: some picture with so many columns and rows. -/
import Derived.Test.YtdhajndmebnknaaGreatBytes
import Derived.Test.YtdhajndmebnknaaGreatEq
import Derived.BigQuiet
import Derived.IntWalk
import Derived.Laws.BitsLemmas
import Derived.Laws.Bits64
import Derived.Test.YtdhajndmebnknaaGreatTldP
import Derived.Test.YtdhajndmebnknaaGreatPicL
namespace Go.Proofs.YtdhajndmebnknaaGreat
open Go.RowKit

/-- A source that has been asked at times. -/
def SrcAt (w : World) (s : Nat) (A : Option Addr) (n c : Nat) (i : Nat) : Prop :=
  ∃ seed : Int, 0 ≤ seed ∧ seed < 18446744073709551616 ∧ Blk w s 71 #[.slice A n c, .int .i64 i, .int .u64 seed]
/-- Block s alone has turned. -/
def One (s : Nat) (w w' : World) : Prop := Chg (fun b => b = s) w w'

theorem u64_lo (x : Int) : 0 ≤ IntKind.u64.wrap x := by
  have h : IntKind.u64.wrap x = x % 18446744073709551616 := by simp [IntKind.wrap, IntKind.signed, IntKind.bits]
  rw [h]; omega
theorem u64_hi (x : Int) : IntKind.u64.wrap x < 18446744073709551616 := by
  have h : IntKind.u64.wrap x = x % 18446744073709551616 := by simp [IntKind.wrap, IntKind.signed, IntKind.bits]
  rw [h]; omega

theorem u64_small (n : Int) (h0 : 0 ≤ n) (h1 : n < 2 ^ 63) : IntKind.u64.wrap n = n := by rw [IntKind.wrap_u64]; omega
theorem u64_byte (x : Int) (h : 0 ≤ x) (h2 : x < 18446744073709551616) : ∃ k : Nat, k ≤ 255 ∧ Ending.returned (Value.int .i64 (wrap64 (bits .and .u64 (x / 1099511627776) 255))) = .returned (.int .i64 k) := by
  obtain ⟨m, hm⟩ : ∃ m : Nat, x / 1099511627776 = m := ⟨(x / 1099511627776).toNat, by omega⟩
  rw [hm]
  have hb := (bits_nat .u64 63 (by decide) u64_small m 255 (by omega) (by decide)).1
  have hle : m &&& 255 ≤ 255 := Nat.and_le_right
  refine ⟨m &&& 255, hle, ?_⟩
  have e : ((255 : Nat) : Int) = 255 := rfl
  rw [e] at hb
  rw [hb]
  generalize m &&& 255 = q at *
  rw [IntWalk.wrap64_in _ (by omega)]

set_option maxRecDepth 100000 in
set_option maxHeartbeats 400000 in
theorem next_any (s : Nat) (A : Option Addr) (n c i : Nat) (l : List Int) (w : World) (h : SrcAt w s A n c i) (hl : BytesAt w A n l) (hn : n ≤ maxLen) (hi : i ≤ 1000000) :
    Calls Tryz.prog 62 #[.pointer (some ⟨s, 0, none⟩)] w fun e w' => (∃ k : Nat, k ≤ 255 ∧ e = .returned (.int .i64 k)) ∧ SrcAt w' s A n c (i + 1) ∧ One s w w' := by
  unfold maxLen at hn
  obtain ⟨seed, hs0, hs1, hB⟩ := h
  have c0 := hB.cell 0
  have c1 := hB.cell 1
  have c2 := hB.cell 2
  simp at c0 c1 c2
  have f1 := hB.free 1
  have f2 := hB.free 2
  have e1 : ∀ (k : Nat) (u v : Value), (((w.drewN k).setCell ⟨s, 1, none⟩ u).setCell ⟨s, 2, none⟩ v).cell? ⟨s, 1, none⟩ = some u := by
    intro k u v
    have := (((show Blk (w.drewN k) s _ _ from hB).store 1 u).store 2 v).cell 1
    simpa using this
  have e0 : ∀ (k : Nat) (u v : Value), (((w.drewN k).setCell ⟨s, 1, none⟩ u).setCell ⟨s, 2, none⟩ v).cell? ⟨s, 0, none⟩ = some (.slice A n c) := by
    intro k u v
    have := (((show Blk (w.drewN k) s _ _ from hB).store 1 u).store 2 v).cell 0
    simpa using this
  have e2 : ∀ (k : Nat) (u v : Value), (((w.drewN k).setCell ⟨s, 1, none⟩ u).setCell ⟨s, 2, none⟩ v).cell? ⟨s, 2, none⟩ = some v := by
    intro k u v
    have := (((show Blk (w.drewN k) s _ _ from hB).store 1 u).store 2 v).cell 2
    simpa using this
  have FIN : Hid (∀ (k j : Nat) (v : Int), 0 ≤ v → v < 18446744073709551616 → SrcAt ((((w.drewN k).setCell ⟨s, 1, none⟩ (.int .i64 ((i : Int) + 1))).setCell ⟨s, 2, none⟩ (.int .u64 v)).drewN j) s A n c (i + 1) ∧ One s w ((((w.drewN k).setCell ⟨s, 1, none⟩ (.int .i64 ((i : Int) + 1))).setCell ⟨s, 2, none⟩ (.int .u64 v)).drewN j)) := by
    intro k j v h0 h1
    refine ⟨⟨v, h0, h1, ?_⟩, ?_⟩
    · have := (((show Blk (w.drewN k) s _ _ from hB).store 1 (.int .i64 ((i : Int) + 1))).store 2 (.int .u64 v))
      show Blk (((w.drewN k).setCell ⟨s, 1, none⟩ (.int .i64 ((i : Int) + 1))).setCell ⟨s, 2, none⟩ (.int .u64 v)) s _ _
      simpa using this
    · exact ((((Chg.refl (fun b => b = s) w).drewN k).store (p := ⟨s, 1, none⟩) rfl _).store (p := ⟨s, 2, none⟩) rfl _).drewN j
  clear hB
  by_cases hin : i < n
  · obtain ⟨h1, h2, h3⟩ := hl
    obtain ⟨a, rfl, hlt, hc⟩ := h3 (by omega)
    have c3 := hc i (by omega)
    have b1 := h2 l[i] (List.getElem_mem _)
    generalize l[i] = x at *
    obtain ⟨b0, b1⟩ := b1
    have i0 : (0 : Int) ≤ (i : Int) := by omega
    have i1 : (i : Int) < (n : Int) := by omega
    have i2 : (i : Int) + 1 ≤ (n : Int) := by omega
    clear h1 h2 h3 hc
    go_enter Tryz.func62, Tryz.ntmps62
    go_wp2_with fail
    go_quiet (fail)
    go_wp2_with fail
    go_quiet (fail)
    go_wp2_with fail
    go_quiet (fail)
    go_wp2_with fail
    go_ret
    exact ⟨⟨x.toNat, by omega, by rw [show ((x.toNat : Nat) : Int) = x by omega]; rfl⟩, FIN.out _ _ _ (u64_lo _) (u64_hi _)⟩
  · have i1 : ¬ (i : Int) < (n : Int) := by omega
    have i2 : ¬ (i : Int) + 1 ≤ (n : Int) := by omega
    go_enter Tryz.func62, Tryz.ntmps62
    go_wp2_with fail
    go_quiet (fail)
    go_wp2_with fail
    go_quiet (fail)
    go_wp2_with fail
    go_ret
    refine ⟨?_, FIN.out _ _ _ (u64_lo _) (u64_hi _)⟩
    exact u64_byte _ (u64_lo _) (u64_hi _)

theorem SrcAt.le {w : World} {s : Nat} {A : Option Addr} {n c i : Nat} (h : SrcAt w s A n c i) : s < w.heap.size := by
  obtain ⟨seed, _, _, hB⟩ := h
  exact hB.lt
theorem SrcAt.ext {w w' : World} {s : Nat} {A : Option Addr} {n c i : Nat} (h : SrcAt w s A n c i) (hb : Below w.heap.size w w') : SrcAt w' s A n c i := by
  obtain ⟨seed, h0, h1, hB⟩ := h
  exact ⟨seed, h0, h1, hB.under hb hB.lt⟩
theorem One.bytes {s : Nat} {w w' : World} {A : Option Addr} {n : Nat} {l : List Int} {B : Nat} (h : One s w w') (hB : Below B w w') (hl : BytesAt w A n l) (hlow : ∀ a, A = some a → 0 < n → a.block < B) : BytesAt w' A n l := by
  refine ⟨hl.1, hl.2.1, fun hn => ?_⟩
  obtain ⟨a, e, hlt, hc⟩ := hl.2.2 hn
  have := hlow a e hn
  exact ⟨a, e, Nat.lt_of_lt_of_le hlt h.size, fun i hi => (hB.cell (by rw [Addr.add_block]; exact this)).trans (hc i hi)⟩

/-- A source over bytes that came in: what is kept from call to call. The source lies behind B; the bytes before. -/
structure Src (B : Nat) (w : World) (s : Nat) (A : Option Addr) (n c : Nat) (l : List Int) (i : Nat) : Prop where
  at_ : SrcAt w s A n c i
  bytes : BytesAt w A n l
  low : ∀ a, A = some a → 0 < n → a.block < B
  high : B ≤ s
theorem Src.turn {B : Nat} {w w' : World} {s : Nat} {A : Option Addr} {n c : Nat} {l : List Int} {i j : Nat} (h : Src B w s A n c l i) (ha : SrcAt w' s A n c j) (ho : One s w w') : Src B w' s A n c l j := by
  have hb : Below B w w' := ho.below (fun k hk => by subst hk; exact h.high) (by have := h.at_.le; have := h.high; omega)
  exact ⟨ha, ho.bytes hb h.bytes h.low, h.low, h.high⟩
theorem Src.ext {B : Nat} {w w' : World} {s : Nat} {A : Option Addr} {n c : Nat} {l : List Int} {i : Nat} (h : Src B w s A n c l i) (hb : Below w.heap.size w w') : Src B w' s A n c l i :=
  ⟨h.at_.ext hb, h.bytes.ext hb, h.low, h.high⟩
/-- Another block of the law's own has turned. -/
theorem Src.other {B : Nat} {w : World} {s : Nat} {A : Option Addr} {n c : Nat} {l : List Int} {i : Nat} (h : Src B w s A n c l i) {p : Addr} (hp : B ≤ p.block) (hs : s ≠ p.block) (u : Value) : Src B (w.setCell p u) s A n c l i := by
  obtain ⟨seed, h0, h1, hB⟩ := h.at_
  refine ⟨⟨seed, h0, h1, hB.apart hs u⟩, ⟨h.bytes.1, h.bytes.2.1, fun hn => ?_⟩, h.low, h.high⟩
  obtain ⟨a, e, hlt, hc⟩ := h.bytes.2.2 hn
  have hab := h.low a e hn
  refine ⟨a, e, by simpa [World.setCell] using hlt, fun i hi => ?_⟩
  have hbl : Below B w (w.setCell p u) := (Below.refl B w).setCell hp u
  exact (hbl.cell (by rw [Addr.add_block]; exact hab)).trans (hc i hi)

set_option maxHeartbeats 400000 in
theorem pick_any (B s : Nat) (A : Option Addr) (n c i : Nat) (l : List Int) (m : Int) (hm : 1 ≤ m) (hm2 : m ≤ 200) (w : World) (h : Src B w s A n c l i) (hn : n ≤ maxLen) (hi : i ≤ 1000000) :
    Calls Tryz.prog 40 #[.pointer (some ⟨s, 0, none⟩), .int .i64 m] w fun e w' => (∃ k : Nat, (k : Int) < m ∧ e = .returned (.int .i64 k)) ∧ (∃ j, j ≤ i + 1 ∧ Src B w' s A n c l j) ∧ One s w w' := by
  by_cases h1 : m ≤ 1
  · have H := Lib.hid h
    clear h
    go_enter Tryz.func40, Tryz.ntmps40
    go_wp2_with fail
    go_ret
    exact ⟨⟨0, by omega, rfl⟩, ⟨i, by omega, H.out⟩, Chg.refl _ _⟩
  · have NX := Lib.hid (next_any s A n c i l w h.at_ h.bytes hn hi)
    have H := Lib.hid h
    have t2 : ¬ (200 : Int) < m := by omega
    have t3 : m ≠ 0 := by omega
    clear h
    go_enter Tryz.func40, Tryz.ntmps40
    go_wp2_with fail
    refine NX.out.mono ?_
    rintro e w' ⟨⟨k, hk, rfl⟩, ha, ho⟩
    have HS := Lib.hid (H.out.turn ha ho)
    have HO := Lib.hid ho
    clear ha ho
    go_wp2_with fail
    go_ret
    refine ⟨⟨k % m.toNat, ?_, ?_⟩, ⟨i + 1, Nat.le_refl _, HS.out⟩, HO.out⟩
    · have := Nat.mod_lt k (show 0 < m.toNat by omega); omega
    · have e1 : ((k % m.toNat : Nat) : Int) = (k : Int) % m := by rw [Int.natCast_emod]; congr 1; omega
      rw [e1]; rfl
theorem one_any (B s : Nat) (A : Option Addr) (n c i : Nat) (l : List Int) (m : Int) (hm : 1 ≤ m) (hm2 : m ≤ 200) (w : World) (h : Src B w s A n c l i) (hn : n ≤ maxLen) (hi : i ≤ 1000000) :
    Calls Tryz.prog 38 #[.pointer (some ⟨s, 0, none⟩), .int .i64 m] w fun e w' => (∃ b : Bool, e = .returned (.bool b)) ∧ (∃ j, j ≤ i + 1 ∧ Src B w' s A n c l j) ∧ One s w w' := by
  have PK := Lib.hid (pick_any B s A n c i l m hm hm2 w h hn hi)
  clear h
  go_enter Tryz.func38, Tryz.ntmps38
  go_wp2_with fail
  refine PK.out.mono ?_
  rintro e w' ⟨⟨k, hk, rfl⟩, hj, ho⟩
  have HH := Lib.hid (And.intro hj ho)
  clear hj ho
  go_wp2_with fail
  go_ret
  exact ⟨⟨_, rfl⟩, HH.out⟩
theorem from0_any (A : Option Addr) (n c : Nat) (l : List Int) (w : World) (hl : BytesAt w A n l) :
    Calls Tryz.prog 17 #[.slice A n c] w fun e w' => ∃ s, e = .returned (.pointer (some ⟨s, 0, none⟩)) ∧ Src w.heap.size w' s A n c l 0 ∧ Below w.heap.size w w' := by
  have hb : Below w.heap.size w (w.alloc (.cells #[.slice A n c, .int .i64 0, .int .u64 0] 71)) := Ext.more (Ext.refl _) _
  have S0 : Src w.heap.size (w.alloc (.cells #[.slice A n c, .int .i64 0, .int .u64 0] 71)) w.heap.size A n c l 0 :=
    ⟨⟨0, by decide, by decide, Blk.made _ _ _⟩, hl.ext hb, fun a e h0 => (by obtain ⟨a', e', hlt, _⟩ := hl.2.2 h0; rw [e] at e'; cases e'; exact hlt), Nat.le_refl _⟩
  have HH := Lib.hid (And.intro S0 hb)
  clear S0 hb hl
  go_enter Tryz.func17, Tryz.ntmps17
  go_wp2_with fail
  go_ret
  exact ⟨_, rfl, HH.out⟩
end Go.Proofs.YtdhajndmebnknaaGreat

namespace Go.Proofs.YtdhajndmebnknaaGreat
open Go.RowKit

/-- What is kept while a picture is drawn. -/
structure DrawInvG (B : Nat) (w : World) (s : Nat) (A : Option Addr) (n c : Nat) (l : List Int) (R g N i : Nat) (wr : World) : Prop where
  src : ∃ j, j ≤ i ∧ Src B wr s A n c l j
  res : Blk wr R 26 #[.slice none 0 0]
  list : ∃ L, L.length = N ∧ Blk wr g 4 (boolC L)
  chg : Chg (fun b => b = s ∨ w.heap.size ≤ b) w wr
  hg : w.heap.size ≤ g
  hR : w.heap.size ≤ R
  hs : s < w.heap.size
section
variable {B : Nat} {w : World} {s : Nat} {A : Option Addr} {n c : Nat} {l : List Int} {R g N i : Nat} {wr : World}
theorem DrawInvG.turn (h : DrawInvG B w s A n c l R g N i wr) {w' : World} {j i' : Nat} (hs : Src B w' s A n c l j) (hj : j ≤ i') (ho : One s wr w') : DrawInvG B w s A n c l R g N i' w' := by
  obtain ⟨L, hL, hB⟩ := h.list
  refine ⟨⟨j, hj, hs⟩, ho.blk h.res (fun e => by have := h.hR; have := h.hs; omega), ⟨L, hL, ho.blk hB (fun e => by have := h.hg; have := h.hs; omega)⟩, h.chg.trans (ho.mono (fun k hk => .inl hk)), h.hg, h.hR, h.hs⟩
theorem DrawInvG.put (h : DrawInvG B w s A n c l R g N i wr) (k : Nat) (b : Bool) : DrawInvG B w s A n c l R g N i (wr.setCell ⟨g, k, none⟩ (.bool b)) := by
  obtain ⟨L, hL, hB⟩ := h.list
  obtain ⟨j, hj, hs⟩ := h.src
  have hgs := h.hg
  have hss := h.hs
  refine ⟨⟨j, hj, hs.other (p := ⟨g, k, none⟩) (by have := hs.high; show B ≤ g; omega) (by show s ≠ g; omega) _⟩, h.res.apart (p := ⟨g, k, none⟩) (h.res.ne hB (by decide)) _, ⟨L.set k b, by simp [hL], ?_⟩, h.chg.store (p := ⟨g, k, none⟩) (.inr hgs) _, hgs, h.hR, hss⟩
  have := hB.store k (.bool b)
  rwa [boolC_set] at this
theorem DrawInvG.cells (h : DrawInvG B w s A n c l R g N i wr) {k : Nat} (hk : k < N) : (∃ u, wr.cell? ⟨g, k, none⟩ = some u) ∧ wr.frozen? ⟨g, k, none⟩ = false := by
  obtain ⟨L, hL, hB⟩ := h.list
  exact ⟨⟨_, (hB.cell k).trans (boolC_get L k (by omega))⟩, hB.free k⟩
theorem DrawInvG.le (h : DrawInvG B w s A n c l R g N i wr) {i' : Nat} (hi : i ≤ i') : DrawInvG B w s A n c l R g N i' wr := by
  obtain ⟨j, hj, hs⟩ := h.src
  exact ⟨⟨j, by omega, hs⟩, h.res, h.list, h.chg, h.hg, h.hR, h.hs⟩
theorem DrawInvG.srcAt (h : DrawInvG B w s A n c l w.heap.size g N i wr) {w' : World} (hb : Below wr.heap.size wr w') (u : Value) {i' : Nat} (hi : i ≤ i' := by omega) : ∃ j, j ≤ i' ∧ Src B (w'.setCell ⟨w.heap.size, 0, none⟩ u) s A n c l j := by
  obtain ⟨j, hj, hs⟩ := h.src
  have h1 := h.hs
  have h2 := hs.high
  exact ⟨j, by omega, (hs.ext hb).other (p := ⟨w.heap.size, 0, none⟩) (by show B ≤ w.heap.size; omega) (by show s ≠ w.heap.size; omega) u⟩
/-- A pick, in the midst. -/
theorem DrawInvG.pick (h : DrawInvG B w s A n c l R g N i wr) (hn : n ≤ maxLen) (hi : i ≤ 1000000) (m : Int) (hm : 1 ≤ m) (hm2 : m ≤ 200) :
    Calls Tryz.prog 40 #[.pointer (some ⟨s, 0, none⟩), .int .i64 m] wr fun e w' => ∃ k : Nat, (k : Int) < m ∧ e = .returned (.int .i64 k) ∧ DrawInvG B w s A n c l R g N (i + 1) w' := by
  obtain ⟨j, hj, hs⟩ := h.src
  refine (pick_any B s A n c j l m hm hm2 wr hs hn (by omega)).mono ?_
  rintro e w' ⟨⟨k, hk, rfl⟩, ⟨j', hj', hs'⟩, ho⟩
  exact ⟨k, hk, rfl, h.turn hs' (by omega) ho⟩
theorem DrawInvG.one (h : DrawInvG B w s A n c l R g N i wr) (hn : n ≤ maxLen) (hi : i ≤ 1000000) (m : Int) (hm : 1 ≤ m) (hm2 : m ≤ 200) :
    Calls Tryz.prog 38 #[.pointer (some ⟨s, 0, none⟩), .int .i64 m] wr fun e w' => ∃ b : Bool, e = .returned (.bool b) ∧ DrawInvG B w s A n c l R g N (i + 1) w' := by
  obtain ⟨j, hj, hs⟩ := h.src
  refine (one_any B s A n c j l m hm hm2 wr hs hn (by omega)).mono ?_
  rintro e w' ⟨⟨b, rfl⟩, ⟨j', hj', hs'⟩, ho⟩
  exact ⟨b, rfl, h.turn hs' (by omega) ho⟩
end

theorem inS_exG (a b c : Int) (w : World) : Calls Tryz.prog 41 #[.int .i64 a, .int .i64 b, .int .i64 c] w fun e w' => ∃ t : Bool, e = .returned (.bool t) ∧ w = w' :=
  (inS_any a b c w).mono fun _ _ ⟨h, k⟩ => ⟨_, h, k⟩

set_option maxRecDepth 100000 in
set_option maxHeartbeats 4000000 in
theorem drawG_any (B s : Nat) (A : Option Addr) (n c i : Nat) (l : List Int) (W H : Nat) (w : World) (h : Src B w s A n c l i) (hn : n ≤ maxLen) (hi : i ≤ 900000) (hW0 : 0 < W) (hW : W ≤ 16) (hH0 : 0 < H) (hH : H ≤ 16) :
    Calls Tryz.prog 80 #[.pointer (some ⟨s, 0, none⟩), .int .i64 W, .int .i64 H] w fun e w' => ∃ A2 c2 L, e = .returned (.agg #[.slice A2 H c2]) ∧ L.length = W * H ∧
      w'.ownsRow w.heap.size 9 1 (.slice A2 H c2) H (strs (rowsTo L W H)) ∧ Chg (fun b => b = s ∨ w.heap.size ≤ b) w w' ∧ ∃ j, j ≤ i + 330 ∧ Src B w' s A n c l j := by
  obtain ⟨i0, hi', hz0, hz1, hz2⟩ := info_parts boolInfo
  have hb : W * H ≤ 256 := Nat.le_trans (Nat.mul_le_mul hW hH) (by decide)
  have hc : (W : Int) * H = ((W * H : Nat) : Int) := by simp
  have hmk : ∀ V : World, (Instr.makeSlice 74 (.int .i64 ((W : Int) * H)) (.int .i64 ((W : Int) * H))).run Tryz.prog V = .ok (.slice (some ⟨V.heap.size, 0, none⟩) (W * H) (W * H)) (V.alloc (.cells (boolC (List.replicate (W * H) false)) 4)) := by
    intro V
    have h := run_make (P := Tryz.prog) V 74 4 i0 _ Tryz.underlying74 hi' hz0 .i64 .i64 ((W : Int) * H) ((W : Int) * H) (by omega) (Int.le_refl _) (by rw [hz2]; omega) (by omega)
    rw [h, hz1, hc, Int.toNat_natCast]
    show Result.ok _ (V.alloc (.cells (madeCells #[.bool false] (W * H * 1)) _)) = _
    rw [Nat.mul_one, boolC_made]
  have hm1 : (W : Int) * H ≤ 256 := by omega
  have hm0 : (0 : Int) ≤ (W : Int) * H := by omega
  have D0 : DrawInvG B w s A n c l w.heap.size (w.heap.size + 1) (W * H) i ((w.alloc (.cells #[.slice none 0 0] 26)).alloc (.cells (boolC (List.replicate (W * H) false)) 4)) := by
    refine ⟨⟨i, Nat.le_refl _, h.ext (Ext.more (Ext.more (Ext.refl _) _) _)⟩, (Blk.made _ _ _).more _, ⟨List.replicate (W * H) false, List.length_replicate, ?_⟩, ?_, by omega, Nat.le_refl _, h.at_.le⟩
    · have := Blk.made (w.alloc (.cells #[.slice none 0 0] 26)) 4 (boolC (List.replicate (W * H) false))
      simpa using this
    · exact (Chg.of_below (Ext.more (Ext.more (Ext.refl w) (.cells #[.slice none 0 0] 26)) (.cells (boolC (List.replicate (W * H) false)) 4))).mono (fun k hk => .inr hk)
  clear hc hi' hz0 hz1 hz2 h
  have MK := Lib.hid (fun (g : Nat) (L : List Bool) (V : World) (hL : L.length = W * H) (hB : Blk V g 4 (boolC L)) => make_any (some ⟨g, 0, none⟩) (W * H) W H L V (fun _ => ⟨g, rfl, hB.lt, fun i hi => by
    have hi2 : i < L.length := by simpa [bools] using hi
    rw [hB.cell i, boolC_get L i hi2]; simp [bools]⟩) hW0 (by omega) (by omega) hL)
  go_enter Tryz.func80, Tryz.ntmps80
  go_wp2_with fail
  refine (D0.pick hn (by omega) 5 (by decide) (by decide)).mono ?_
  rintro e w1 ⟨k, hk, rfl, D1⟩
  clear D0 hmk
  have hk' : k = 0 ∨ k = 1 ∨ k = 2 ∨ k = 3 ∨ k = 4 := by omega
  rcases hk' with rfl | rfl | rfl | rfl | rfl
  · go_wp2_with fail
    go_loopw [30] (fun v wr => ∃ k : Nat, k ≤ W * H ∧ v = .int .i64 k ∧ DrawInvG B w s A n c l w.heap.size (w.heap.size + 1) (W * H) (i + 1 + k) wr) (fun v _ => W * H - (intOf v).toNat)
    case atStart => exact ⟨0, Nat.zero_le _, rfl, D1⟩
    case round =>
      obtain ⟨k, hk, rfl, D⟩ := hrel
      by_cases hlt : k < W * H
      · have i1 : (k : Int) < ((W * H : Nat) : Int) := by omega
        have i2 : (0 : Int) ≤ (k : Int) := by omega
        go_wp2_with fail
        refine (D.one hn (by omega) 2 (by decide) (by decide)).mono ?_
        rintro e w2 ⟨b, rfl, D2⟩
        obtain ⟨⟨u, cu⟩, fu⟩ := D2.cells hlt
        have D3 := Lib.hid (D2.put k b)
        clear D2
        go_wp2_with fail
        go_roundw
        case rel => exact ⟨k + 1, by omega, by go_num, D3.out⟩
        case measure => simp [intOf]; omega
      · obtain rfl : k = W * H := by omega
        clear D1
        have DT := D.le (show i + 1 + W * H ≤ i + 300 by omega)
        clear D
        go_wp2_with fail
        refine (DT.pick hn (by omega) 4 (by decide) (by decide)).mono ?_
        rintro e w5 ⟨k5, hk5, rfl, D5⟩
        clear DT
        go_wp2_with fail
        go_loopw [13] (fun v wr => ∃ k : Nat, k ≤ 3 ∧ v = .int .i64 k ∧ DrawInvG B w s A n c l w.heap.size (w.heap.size + 1) (W * H) (i + 301 + 5 * (3 - k)) wr) (fun v _ => (intOf v).toNat)
        case atStart => exact ⟨k5, by omega, rfl, D5.le (by omega)⟩
        case round =>
          obtain ⟨q, hq, rfl, D⟩ := hrel
          clear D5
          by_cases hz : q = 0
          · subst hz
            obtain ⟨L, hL, hB⟩ := D.list
            have M := Lib.hid (MK.out _ _ _ hL hB)
            have HD := Lib.hid D
            have HLL := Lib.hid hL
            clear D hB hL
            go_wp2_with fail
            refine M.out.mono ?_
            rintro e w6 ⟨A6, c6, rfl, own6, hb6⟩
            have hR := HD.out.res.under hb6 HD.out.res.lt
            have f0 := hR.free 0
            have c0 := hR.cell 0
            have cs := (hR.store 0 (.slice A6 H c6)).cell 0
            simp at c0 cs
            have hgr := HD.out.chg.size
            have hRlt := HD.out.res.lt
            go_wp2_with fail
            refine bodyPost_ret (v := .agg #[.slice A6 H c6]) (by simp [results, Tryz.results80, go_sem, cs]) rfl ⟨A6, c6, L, rfl, HLL.out, ?_, ?_, ?_⟩
            · exact own_base (ownsRow_setCell_below own6 (a := ⟨w.heap.size, 0, none⟩) (by show w.heap.size < wr.heap.size; omega) _) hgr
            · exact (HD.out.chg.ext hb6).store (p := ⟨w.heap.size, 0, none⟩) (.inr (Nat.le_refl _)) _
            · exact HD.out.srcAt hb6 (.slice A6 H c6) (i' := i + 330) (by omega)
          · have t0 : (0 : Int) < (q : Int) := by omega
            go_wp2_with fail
            refine (D.pick hn (by omega) W (by omega) (by omega)).mono ?_
            rintro e w6 ⟨x, hx, rfl, D6⟩
            clear D
            go_wp2_with fail
            refine (D6.pick hn (by omega) H (by omega) (by omega)).mono ?_
            rintro e w7 ⟨y, hy, rfl, D7⟩
            clear D6
            go_wp2_with fail
            refine (D7.pick hn (by omega) ((W : Int) - x) (by omega) (by omega)).mono ?_
            rintro e w8 ⟨wd, hwd, rfl, D8⟩
            clear D7
            go_wp2_with fail
            refine (D8.pick hn (by omega) ((H : Int) - y) (by omega) (by omega)).mono ?_
            rintro e w9 ⟨ht, hht, rfl, D9⟩
            clear D8
            go_wp2_with fail
            refine (D9.one hn (by omega) 3 (by decide) (by decide)).mono ?_
            rintro e w10 ⟨bl, rfl, D10⟩
            clear D9
            go_wp2_with fail
            go_loopw [109] (fun v wr => ∃ k : Nat, k ≤ W * H ∧ v = .int .i64 k ∧ DrawInvG B w s A n c l w.heap.size (w.heap.size + 1) (W * H) (i + 301 + 5 * (3 - q) + 5) wr) (fun v _ => W * H - (intOf v).toNat)
            case atStart => exact ⟨0, Nat.zero_le _, rfl, D10⟩
            case round =>
              obtain ⟨k, hk, rfl, D⟩ := hrel
              clear D10
              by_cases hlt : k < W * H
              · have i1 : (k : Int) < ((W * H : Nat) : Int) := by omega
                have i2 : (0 : Int) ≤ (k : Int) := by omega
                have iW : (W : Int) ≠ 0 := by omega
                obtain ⟨⟨u, cu⟩, fu⟩ := D.cells hlt
                have D3 := Lib.hid (D.put k (!bl))
                have D4 := Lib.hid D
                clear D
                go_wp2_with fail
                refine (inS_exG _ _ _ _).mono ?_
                rintro e w11 ⟨b1, rfl, rfl⟩
                cases b1
                · go_wp2_with fail
                  go_roundw
                  case rel => exact ⟨k + 1, by omega, by go_num, D4.out⟩
                  case measure => simp [intOf]; omega
                · go_wp2_with fail
                  refine (inS_exG _ _ _ _).mono ?_
                  rintro e w12 ⟨b2, rfl, rfl⟩
                  cases b2
                  · go_wp2_with fail
                    go_roundw
                    case rel => exact ⟨k + 1, by omega, by go_num, D4.out⟩
                    case measure => simp [intOf]; omega
                  · go_wp2_with fail
                    go_roundw
                    case rel => exact ⟨k + 1, by omega, by go_num, D3.out⟩
                    case measure => simp [intOf]; omega
              · obtain rfl : k = W * H := by omega
                go_wp2_with fail
                go_roundw
                case rel => exact ⟨q - 1, by omega, by simp; omega, D.le (by omega)⟩
                case measure => simp [intOf]; omega
  · go_wp2_with fail
    go_loopw [43] (fun v wr => ∃ k : Nat, k ≤ W * H ∧ v = .int .i64 k ∧ DrawInvG B w s A n c l w.heap.size (w.heap.size + 1) (W * H) (i + 1 + k) wr) (fun v _ => W * H - (intOf v).toNat)
    case atStart => exact ⟨0, Nat.zero_le _, rfl, D1⟩
    case round =>
      obtain ⟨k, hk, rfl, D⟩ := hrel
      by_cases hlt : k < W * H
      · have i1 : (k : Int) < ((W * H : Nat) : Int) := by omega
        have i2 : (0 : Int) ≤ (k : Int) := by omega
        go_wp2_with fail
        refine (D.one hn (by omega) 4 (by decide) (by decide)).mono ?_
        rintro e w2 ⟨b, rfl, D2⟩
        obtain ⟨⟨u, cu⟩, fu⟩ := D2.cells hlt
        have D3 := Lib.hid (D2.put k b)
        clear D2
        go_wp2_with fail
        go_roundw
        case rel => exact ⟨k + 1, by omega, by go_num, D3.out⟩
        case measure => simp [intOf]; omega
      · obtain rfl : k = W * H := by omega
        clear D1
        have DT := D.le (show i + 1 + W * H ≤ i + 300 by omega)
        clear D
        go_wp2_with fail
        refine (DT.pick hn (by omega) 4 (by decide) (by decide)).mono ?_
        rintro e w5 ⟨k5, hk5, rfl, D5⟩
        clear DT
        go_wp2_with fail
        go_loopw [13] (fun v wr => ∃ k : Nat, k ≤ 3 ∧ v = .int .i64 k ∧ DrawInvG B w s A n c l w.heap.size (w.heap.size + 1) (W * H) (i + 301 + 5 * (3 - k)) wr) (fun v _ => (intOf v).toNat)
        case atStart => exact ⟨k5, by omega, rfl, D5.le (by omega)⟩
        case round =>
          obtain ⟨q, hq, rfl, D⟩ := hrel
          clear D5
          by_cases hz : q = 0
          · subst hz
            obtain ⟨L, hL, hB⟩ := D.list
            have M := Lib.hid (MK.out _ _ _ hL hB)
            have HD := Lib.hid D
            have HLL := Lib.hid hL
            clear D hB hL
            go_wp2_with fail
            refine M.out.mono ?_
            rintro e w6 ⟨A6, c6, rfl, own6, hb6⟩
            have hR := HD.out.res.under hb6 HD.out.res.lt
            have f0 := hR.free 0
            have c0 := hR.cell 0
            have cs := (hR.store 0 (.slice A6 H c6)).cell 0
            simp at c0 cs
            have hgr := HD.out.chg.size
            have hRlt := HD.out.res.lt
            go_wp2_with fail
            refine bodyPost_ret (v := .agg #[.slice A6 H c6]) (by simp [results, Tryz.results80, go_sem, cs]) rfl ⟨A6, c6, L, rfl, HLL.out, ?_, ?_, ?_⟩
            · exact own_base (ownsRow_setCell_below own6 (a := ⟨w.heap.size, 0, none⟩) (by show w.heap.size < wr.heap.size; omega) _) hgr
            · exact (HD.out.chg.ext hb6).store (p := ⟨w.heap.size, 0, none⟩) (.inr (Nat.le_refl _)) _
            · exact HD.out.srcAt hb6 (.slice A6 H c6) (i' := i + 330) (by omega)
          · have t0 : (0 : Int) < (q : Int) := by omega
            go_wp2_with fail
            refine (D.pick hn (by omega) W (by omega) (by omega)).mono ?_
            rintro e w6 ⟨x, hx, rfl, D6⟩
            clear D
            go_wp2_with fail
            refine (D6.pick hn (by omega) H (by omega) (by omega)).mono ?_
            rintro e w7 ⟨y, hy, rfl, D7⟩
            clear D6
            go_wp2_with fail
            refine (D7.pick hn (by omega) ((W : Int) - x) (by omega) (by omega)).mono ?_
            rintro e w8 ⟨wd, hwd, rfl, D8⟩
            clear D7
            go_wp2_with fail
            refine (D8.pick hn (by omega) ((H : Int) - y) (by omega) (by omega)).mono ?_
            rintro e w9 ⟨ht, hht, rfl, D9⟩
            clear D8
            go_wp2_with fail
            refine (D9.one hn (by omega) 3 (by decide) (by decide)).mono ?_
            rintro e w10 ⟨bl, rfl, D10⟩
            clear D9
            go_wp2_with fail
            go_loopw [109] (fun v wr => ∃ k : Nat, k ≤ W * H ∧ v = .int .i64 k ∧ DrawInvG B w s A n c l w.heap.size (w.heap.size + 1) (W * H) (i + 301 + 5 * (3 - q) + 5) wr) (fun v _ => W * H - (intOf v).toNat)
            case atStart => exact ⟨0, Nat.zero_le _, rfl, D10⟩
            case round =>
              obtain ⟨k, hk, rfl, D⟩ := hrel
              clear D10
              by_cases hlt : k < W * H
              · have i1 : (k : Int) < ((W * H : Nat) : Int) := by omega
                have i2 : (0 : Int) ≤ (k : Int) := by omega
                have iW : (W : Int) ≠ 0 := by omega
                obtain ⟨⟨u, cu⟩, fu⟩ := D.cells hlt
                have D3 := Lib.hid (D.put k (!bl))
                have D4 := Lib.hid D
                clear D
                go_wp2_with fail
                refine (inS_exG _ _ _ _).mono ?_
                rintro e w11 ⟨b1, rfl, rfl⟩
                cases b1
                · go_wp2_with fail
                  go_roundw
                  case rel => exact ⟨k + 1, by omega, by go_num, D4.out⟩
                  case measure => simp [intOf]; omega
                · go_wp2_with fail
                  refine (inS_exG _ _ _ _).mono ?_
                  rintro e w12 ⟨b2, rfl, rfl⟩
                  cases b2
                  · go_wp2_with fail
                    go_roundw
                    case rel => exact ⟨k + 1, by omega, by go_num, D4.out⟩
                    case measure => simp [intOf]; omega
                  · go_wp2_with fail
                    go_roundw
                    case rel => exact ⟨k + 1, by omega, by go_num, D3.out⟩
                    case measure => simp [intOf]; omega
              · obtain rfl : k = W * H := by omega
                go_wp2_with fail
                go_roundw
                case rel => exact ⟨q - 1, by omega, by simp; omega, D.le (by omega)⟩
                case measure => simp [intOf]; omega
  · go_wp2_with fail
    go_loopw [56] (fun v wr => ∃ k : Nat, k ≤ W * H ∧ v = .int .i64 k ∧ DrawInvG B w s A n c l w.heap.size (w.heap.size + 1) (W * H) (i + 1 + k) wr) (fun v _ => W * H - (intOf v).toNat)
    case atStart => exact ⟨0, Nat.zero_le _, rfl, D1⟩
    case round =>
      obtain ⟨k, hk, rfl, D⟩ := hrel
      by_cases hlt : k < W * H
      · have i1 : (k : Int) < ((W * H : Nat) : Int) := by omega
        have i2 : (0 : Int) ≤ (k : Int) := by omega
        go_wp2_with fail
        refine (D.one hn (by omega) 5 (by decide) (by decide)).mono ?_
        rintro e w2 ⟨b, rfl, D2⟩
        obtain ⟨⟨u, cu⟩, fu⟩ := D2.cells hlt
        have D3 := Lib.hid (D2.put k (!b))
        clear D2
        go_wp2_with fail
        go_roundw
        case rel => exact ⟨k + 1, by omega, by go_num, D3.out⟩
        case measure => simp [intOf]; omega
      · obtain rfl : k = W * H := by omega
        clear D1
        have DT := D.le (show i + 1 + W * H ≤ i + 300 by omega)
        clear D
        go_wp2_with fail
        refine (DT.pick hn (by omega) 4 (by decide) (by decide)).mono ?_
        rintro e w5 ⟨k5, hk5, rfl, D5⟩
        clear DT
        go_wp2_with fail
        go_loopw [13] (fun v wr => ∃ k : Nat, k ≤ 3 ∧ v = .int .i64 k ∧ DrawInvG B w s A n c l w.heap.size (w.heap.size + 1) (W * H) (i + 301 + 5 * (3 - k)) wr) (fun v _ => (intOf v).toNat)
        case atStart => exact ⟨k5, by omega, rfl, D5.le (by omega)⟩
        case round =>
          obtain ⟨q, hq, rfl, D⟩ := hrel
          clear D5
          by_cases hz : q = 0
          · subst hz
            obtain ⟨L, hL, hB⟩ := D.list
            have M := Lib.hid (MK.out _ _ _ hL hB)
            have HD := Lib.hid D
            have HLL := Lib.hid hL
            clear D hB hL
            go_wp2_with fail
            refine M.out.mono ?_
            rintro e w6 ⟨A6, c6, rfl, own6, hb6⟩
            have hR := HD.out.res.under hb6 HD.out.res.lt
            have f0 := hR.free 0
            have c0 := hR.cell 0
            have cs := (hR.store 0 (.slice A6 H c6)).cell 0
            simp at c0 cs
            have hgr := HD.out.chg.size
            have hRlt := HD.out.res.lt
            go_wp2_with fail
            refine bodyPost_ret (v := .agg #[.slice A6 H c6]) (by simp [results, Tryz.results80, go_sem, cs]) rfl ⟨A6, c6, L, rfl, HLL.out, ?_, ?_, ?_⟩
            · exact own_base (ownsRow_setCell_below own6 (a := ⟨w.heap.size, 0, none⟩) (by show w.heap.size < wr.heap.size; omega) _) hgr
            · exact (HD.out.chg.ext hb6).store (p := ⟨w.heap.size, 0, none⟩) (.inr (Nat.le_refl _)) _
            · exact HD.out.srcAt hb6 (.slice A6 H c6) (i' := i + 330) (by omega)
          · have t0 : (0 : Int) < (q : Int) := by omega
            go_wp2_with fail
            refine (D.pick hn (by omega) W (by omega) (by omega)).mono ?_
            rintro e w6 ⟨x, hx, rfl, D6⟩
            clear D
            go_wp2_with fail
            refine (D6.pick hn (by omega) H (by omega) (by omega)).mono ?_
            rintro e w7 ⟨y, hy, rfl, D7⟩
            clear D6
            go_wp2_with fail
            refine (D7.pick hn (by omega) ((W : Int) - x) (by omega) (by omega)).mono ?_
            rintro e w8 ⟨wd, hwd, rfl, D8⟩
            clear D7
            go_wp2_with fail
            refine (D8.pick hn (by omega) ((H : Int) - y) (by omega) (by omega)).mono ?_
            rintro e w9 ⟨ht, hht, rfl, D9⟩
            clear D8
            go_wp2_with fail
            refine (D9.one hn (by omega) 3 (by decide) (by decide)).mono ?_
            rintro e w10 ⟨bl, rfl, D10⟩
            clear D9
            go_wp2_with fail
            go_loopw [109] (fun v wr => ∃ k : Nat, k ≤ W * H ∧ v = .int .i64 k ∧ DrawInvG B w s A n c l w.heap.size (w.heap.size + 1) (W * H) (i + 301 + 5 * (3 - q) + 5) wr) (fun v _ => W * H - (intOf v).toNat)
            case atStart => exact ⟨0, Nat.zero_le _, rfl, D10⟩
            case round =>
              obtain ⟨k, hk, rfl, D⟩ := hrel
              clear D10
              by_cases hlt : k < W * H
              · have i1 : (k : Int) < ((W * H : Nat) : Int) := by omega
                have i2 : (0 : Int) ≤ (k : Int) := by omega
                have iW : (W : Int) ≠ 0 := by omega
                obtain ⟨⟨u, cu⟩, fu⟩ := D.cells hlt
                have D3 := Lib.hid (D.put k (!bl))
                have D4 := Lib.hid D
                clear D
                go_wp2_with fail
                refine (inS_exG _ _ _ _).mono ?_
                rintro e w11 ⟨b1, rfl, rfl⟩
                cases b1
                · go_wp2_with fail
                  go_roundw
                  case rel => exact ⟨k + 1, by omega, by go_num, D4.out⟩
                  case measure => simp [intOf]; omega
                · go_wp2_with fail
                  refine (inS_exG _ _ _ _).mono ?_
                  rintro e w12 ⟨b2, rfl, rfl⟩
                  cases b2
                  · go_wp2_with fail
                    go_roundw
                    case rel => exact ⟨k + 1, by omega, by go_num, D4.out⟩
                    case measure => simp [intOf]; omega
                  · go_wp2_with fail
                    go_roundw
                    case rel => exact ⟨k + 1, by omega, by go_num, D3.out⟩
                    case measure => simp [intOf]; omega
              · obtain rfl : k = W * H := by omega
                go_wp2_with fail
                go_roundw
                case rel => exact ⟨q - 1, by omega, by simp; omega, D.le (by omega)⟩
                case measure => simp [intOf]; omega
  · go_wp2_with fail
    refine (D1.one hn (by omega) 2 (by decide) (by decide)).mono ?_
    rintro e w2 ⟨b, rfl, D2⟩
    clear D1
    go_wp2_with fail
    go_loopw [72] (fun v wr => ∃ k : Nat, k ≤ W * H ∧ v = .int .i64 k ∧ DrawInvG B w s A n c l w.heap.size (w.heap.size + 1) (W * H) (i + 2) wr) (fun v _ => W * H - (intOf v).toNat)
    case atStart => exact ⟨0, Nat.zero_le _, rfl, D2⟩
    case round =>
      obtain ⟨k, hk, rfl, D⟩ := hrel
      clear D2
      by_cases hlt : k < W * H
      · have i1 : (k : Int) < ((W * H : Nat) : Int) := by omega
        have i2 : (0 : Int) ≤ (k : Int) := by omega
        obtain ⟨⟨u, cu⟩, fu⟩ := D.cells hlt
        have D3 := Lib.hid (D.put k b)
        clear D
        go_wp2_with fail
        go_roundw
        case rel => exact ⟨k + 1, by omega, by go_num, D3.out⟩
        case measure => simp [intOf]; omega
      · obtain rfl : k = W * H := by omega
        have DT := D.le (show i + 2 ≤ i + 300 by omega)
        clear D
        go_wp2_with fail
        refine (DT.pick hn (by omega) 4 (by decide) (by decide)).mono ?_
        rintro e w5 ⟨k5, hk5, rfl, D5⟩
        clear DT
        go_wp2_with fail
        go_loopw [13] (fun v wr => ∃ k : Nat, k ≤ 3 ∧ v = .int .i64 k ∧ DrawInvG B w s A n c l w.heap.size (w.heap.size + 1) (W * H) (i + 301 + 5 * (3 - k)) wr) (fun v _ => (intOf v).toNat)
        case atStart => exact ⟨k5, by omega, rfl, D5.le (by omega)⟩
        case round =>
          obtain ⟨q, hq, rfl, D⟩ := hrel
          clear D5
          by_cases hz : q = 0
          · subst hz
            obtain ⟨L, hL, hB⟩ := D.list
            have M := Lib.hid (MK.out _ _ _ hL hB)
            have HD := Lib.hid D
            have HLL := Lib.hid hL
            clear D hB hL
            go_wp2_with fail
            refine M.out.mono ?_
            rintro e w6 ⟨A6, c6, rfl, own6, hb6⟩
            have hR := HD.out.res.under hb6 HD.out.res.lt
            have f0 := hR.free 0
            have c0 := hR.cell 0
            have cs := (hR.store 0 (.slice A6 H c6)).cell 0
            simp at c0 cs
            have hgr := HD.out.chg.size
            have hRlt := HD.out.res.lt
            go_wp2_with fail
            refine bodyPost_ret (v := .agg #[.slice A6 H c6]) (by simp [results, Tryz.results80, go_sem, cs]) rfl ⟨A6, c6, L, rfl, HLL.out, ?_, ?_, ?_⟩
            · exact own_base (ownsRow_setCell_below own6 (a := ⟨w.heap.size, 0, none⟩) (by show w.heap.size < wr.heap.size; omega) _) hgr
            · exact (HD.out.chg.ext hb6).store (p := ⟨w.heap.size, 0, none⟩) (.inr (Nat.le_refl _)) _
            · exact HD.out.srcAt hb6 (.slice A6 H c6) (i' := i + 330) (by omega)
          · have t0 : (0 : Int) < (q : Int) := by omega
            go_wp2_with fail
            refine (D.pick hn (by omega) W (by omega) (by omega)).mono ?_
            rintro e w6 ⟨x, hx, rfl, D6⟩
            clear D
            go_wp2_with fail
            refine (D6.pick hn (by omega) H (by omega) (by omega)).mono ?_
            rintro e w7 ⟨y, hy, rfl, D7⟩
            clear D6
            go_wp2_with fail
            refine (D7.pick hn (by omega) ((W : Int) - x) (by omega) (by omega)).mono ?_
            rintro e w8 ⟨wd, hwd, rfl, D8⟩
            clear D7
            go_wp2_with fail
            refine (D8.pick hn (by omega) ((H : Int) - y) (by omega) (by omega)).mono ?_
            rintro e w9 ⟨ht, hht, rfl, D9⟩
            clear D8
            go_wp2_with fail
            refine (D9.one hn (by omega) 3 (by decide) (by decide)).mono ?_
            rintro e w10 ⟨bl, rfl, D10⟩
            clear D9
            go_wp2_with fail
            go_loopw [109] (fun v wr => ∃ k : Nat, k ≤ W * H ∧ v = .int .i64 k ∧ DrawInvG B w s A n c l w.heap.size (w.heap.size + 1) (W * H) (i + 301 + 5 * (3 - q) + 5) wr) (fun v _ => W * H - (intOf v).toNat)
            case atStart => exact ⟨0, Nat.zero_le _, rfl, D10⟩
            case round =>
              obtain ⟨k, hk, rfl, D⟩ := hrel
              clear D10
              by_cases hlt : k < W * H
              · have i1 : (k : Int) < ((W * H : Nat) : Int) := by omega
                have i2 : (0 : Int) ≤ (k : Int) := by omega
                have iW : (W : Int) ≠ 0 := by omega
                obtain ⟨⟨u, cu⟩, fu⟩ := D.cells hlt
                have D3 := Lib.hid (D.put k (!bl))
                have D4 := Lib.hid D
                clear D
                go_wp2_with fail
                refine (inS_exG _ _ _ _).mono ?_
                rintro e w11 ⟨b1, rfl, rfl⟩
                cases b1
                · go_wp2_with fail
                  go_roundw
                  case rel => exact ⟨k + 1, by omega, by go_num, D4.out⟩
                  case measure => simp [intOf]; omega
                · go_wp2_with fail
                  refine (inS_exG _ _ _ _).mono ?_
                  rintro e w12 ⟨b2, rfl, rfl⟩
                  cases b2
                  · go_wp2_with fail
                    go_roundw
                    case rel => exact ⟨k + 1, by omega, by go_num, D4.out⟩
                    case measure => simp [intOf]; omega
                  · go_wp2_with fail
                    go_roundw
                    case rel => exact ⟨k + 1, by omega, by go_num, D3.out⟩
                    case measure => simp [intOf]; omega
              · obtain rfl : k = W * H := by omega
                go_wp2_with fail
                go_roundw
                case rel => exact ⟨q - 1, by omega, by simp; omega, D.le (by omega)⟩
                case measure => simp [intOf]; omega
  · have DT := D1.le (show i + 1 ≤ i + 300 by omega)
    clear D1
    go_wp2_with fail
    refine (DT.pick hn (by omega) 4 (by decide) (by decide)).mono ?_
    rintro e w5 ⟨k5, hk5, rfl, D5⟩
    clear DT
    go_wp2_with fail
    go_loopw [13] (fun v wr => ∃ k : Nat, k ≤ 3 ∧ v = .int .i64 k ∧ DrawInvG B w s A n c l w.heap.size (w.heap.size + 1) (W * H) (i + 301 + 5 * (3 - k)) wr) (fun v _ => (intOf v).toNat)
    case atStart => exact ⟨k5, by omega, rfl, D5.le (by omega)⟩
    case round =>
      obtain ⟨q, hq, rfl, D⟩ := hrel
      clear D5
      by_cases hz : q = 0
      · subst hz
        obtain ⟨L, hL, hB⟩ := D.list
        have M := Lib.hid (MK.out _ _ _ hL hB)
        have HD := Lib.hid D
        have HLL := Lib.hid hL
        clear D hB hL
        go_wp2_with fail
        refine M.out.mono ?_
        rintro e w6 ⟨A6, c6, rfl, own6, hb6⟩
        have hR := HD.out.res.under hb6 HD.out.res.lt
        have f0 := hR.free 0
        have c0 := hR.cell 0
        have cs := (hR.store 0 (.slice A6 H c6)).cell 0
        simp at c0 cs
        have hgr := HD.out.chg.size
        have hRlt := HD.out.res.lt
        go_wp2_with fail
        refine bodyPost_ret (v := .agg #[.slice A6 H c6]) (by simp [results, Tryz.results80, go_sem, cs]) rfl ⟨A6, c6, L, rfl, HLL.out, ?_, ?_, ?_⟩
        · exact own_base (ownsRow_setCell_below own6 (a := ⟨w.heap.size, 0, none⟩) (by show w.heap.size < wr.heap.size; omega) _) hgr
        · exact (HD.out.chg.ext hb6).store (p := ⟨w.heap.size, 0, none⟩) (.inr (Nat.le_refl _)) _
        · exact HD.out.srcAt hb6 (.slice A6 H c6) (i' := i + 330) (by omega)
      · have t0 : (0 : Int) < (q : Int) := by omega
        go_wp2_with fail
        refine (D.pick hn (by omega) W (by omega) (by omega)).mono ?_
        rintro e w6 ⟨x, hx, rfl, D6⟩
        clear D
        go_wp2_with fail
        refine (D6.pick hn (by omega) H (by omega) (by omega)).mono ?_
        rintro e w7 ⟨y, hy, rfl, D7⟩
        clear D6
        go_wp2_with fail
        refine (D7.pick hn (by omega) ((W : Int) - x) (by omega) (by omega)).mono ?_
        rintro e w8 ⟨wd, hwd, rfl, D8⟩
        clear D7
        go_wp2_with fail
        refine (D8.pick hn (by omega) ((H : Int) - y) (by omega) (by omega)).mono ?_
        rintro e w9 ⟨ht, hht, rfl, D9⟩
        clear D8
        go_wp2_with fail
        refine (D9.one hn (by omega) 3 (by decide) (by decide)).mono ?_
        rintro e w10 ⟨bl, rfl, D10⟩
        clear D9
        go_wp2_with fail
        go_loopw [109] (fun v wr => ∃ k : Nat, k ≤ W * H ∧ v = .int .i64 k ∧ DrawInvG B w s A n c l w.heap.size (w.heap.size + 1) (W * H) (i + 301 + 5 * (3 - q) + 5) wr) (fun v _ => W * H - (intOf v).toNat)
        case atStart => exact ⟨0, Nat.zero_le _, rfl, D10⟩
        case round =>
          obtain ⟨k, hk, rfl, D⟩ := hrel
          clear D10
          by_cases hlt : k < W * H
          · have i1 : (k : Int) < ((W * H : Nat) : Int) := by omega
            have i2 : (0 : Int) ≤ (k : Int) := by omega
            have iW : (W : Int) ≠ 0 := by omega
            obtain ⟨⟨u, cu⟩, fu⟩ := D.cells hlt
            have D3 := Lib.hid (D.put k (!bl))
            have D4 := Lib.hid D
            clear D
            go_wp2_with fail
            refine (inS_exG _ _ _ _).mono ?_
            rintro e w11 ⟨b1, rfl, rfl⟩
            cases b1
            · go_wp2_with fail
              go_roundw
              case rel => exact ⟨k + 1, by omega, by go_num, D4.out⟩
              case measure => simp [intOf]; omega
            · go_wp2_with fail
              refine (inS_exG _ _ _ _).mono ?_
              rintro e w12 ⟨b2, rfl, rfl⟩
              cases b2
              · go_wp2_with fail
                go_roundw
                case rel => exact ⟨k + 1, by omega, by go_num, D4.out⟩
                case measure => simp [intOf]; omega
              · go_wp2_with fail
                go_roundw
                case rel => exact ⟨k + 1, by omega, by go_num, D3.out⟩
                case measure => simp [intOf]; omega
          · obtain rfl : k = W * H := by omega
            go_wp2_with fail
            go_roundw
            case rel => exact ⟨q - 1, by omega, by simp; omega, D.le (by omega)⟩
            case measure => simp [intOf]; omega
end Go.Proofs.YtdhajndmebnknaaGreat
