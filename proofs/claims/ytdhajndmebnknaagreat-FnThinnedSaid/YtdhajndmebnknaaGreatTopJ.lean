/- The reference's eight steps, and its picture with a white edge. What lies in memory while the reference visits a part. -/
import Derived.Test.YtdhajndmebnknaaGreatTopE
import Derived.Test.YtdhajndmebnknaaGreatWide
import Derived.Test.YtdhajndmebnknaaGreatTldP
import Derived.Test.YtdhajndmebnknaaGreatTopT
namespace Go.Proofs.YtdhajndmebnknaaGreat
open Go.RowKit

def stepE : List (Int × Int) := [(0, -1), (-1, 0), (1, 0), (0, 1), (-1, -1), (1, -1), (-1, 1), (1, 1)]
theorem mem_stepE {p q : Int × Int} : q ∈ nbD stepE p ↔ A8 p q := by
  obtain ⟨a, b⟩ := p
  obtain ⟨c, d⟩ := q
  simp only [nbD, stepE, List.map_cons, List.map_nil, List.mem_cons, List.not_mem_nil, or_false, Prod.mk.injEq, A8, A4]
  constructor
  · rintro h; omega
  · rintro h; omega
theorem padL_len (L : List Bool) (W H : Nat) : (padL L W H).length = (W + 2) * (H + 2) := by simp [padL]
def padP (L : List Bool) (W H : Nat) (i : Nat) : Bool := bit L W H (((i % (W + 2) : Nat) : Int) - 1) (((i / (W + 2) : Nat) : Int) - 1)
theorem padL_bTo (L : List Bool) (W H : Nat) : padL L W H = bTo (padP L W H) ((W + 2) * (H + 2)) := rfl
theorem padP_at (L : List Bool) {W H x y : Nat} (hx : x < W + 2) : padP L W H (y * (W + 2) + x) = bit L W H ((x : Int) - 1) ((y : Int) - 1) := by
  rw [padP, modT hx, divT hx]
end Go.Proofs.YtdhajndmebnknaaGreat

namespace Go.Proofs.YtdhajndmebnknaaGreat
open Go.RowKit

def colL (L : List Bool) (c : Bool) : List Bool := if c then L else L.map fun b => !b
theorem colL_len (L : List Bool) (c : Bool) : (colL L c).length = L.length := by cases c <;> simp [colL]
theorem okI_col {L : List Bool} {W H : Nat} (hL : L.length = W * H) (c : Bool) : okI (colL L c) W H = okC L W H c := by
  funext z
  rw [Bool.eq_iff_iff, okI_iff, okC_iff, has_iff, hasB_iff]
  show _ ↔ _ ∧ bit L W H z.1 z.2 = c
  have e : ∀ i, i < L.length → (colL L c).getD i false = (L.getD i false == c) := fun i hi => by
    cases c
    · simp [colL, List.getD_eq_getElem?_getD, List.getElem?_eq_getElem hi]
    · simp [colL]
  constructor
  · rintro ⟨x, y, rfl, hx, hy, h⟩
    have hi : y * W + x < L.length := by rw [hL]; exact pl_lt hx hy
    rw [e _ hi] at h
    refine ⟨by simp only; omega, ?_⟩
    rw [bit_in hx hy]
    simpa using h
  · obtain ⟨z1, z2⟩ := z
    rintro ⟨⟨⟨h1, h2⟩, h3, h4⟩, h⟩
    simp only at h1 h2 h3 h4 h
    obtain ⟨x, rfl⟩ : ∃ k : Nat, z1 = k := ⟨z1.toNat, by omega⟩
    obtain ⟨y, rfl⟩ : ∃ k : Nat, z2 = k := ⟨z2.toNat, by omega⟩
    have hx : x < W := by omega
    have hy : y < H := by omega
    have hi : y * W + x < L.length := by rw [hL]; exact pl_lt hx hy
    rw [bit_in hx hy] at h
    refine ⟨x, y, rfl, hx, hy, ?_⟩
    rw [e _ hi, h]; simp
def stC (c : Bool) : List (Int × Int) := if c then stepE else stepL
theorem nbD_C (c : Bool) : ∀ p q, q ∈ nbD (stC c) p ↔ if c then A8 p q else A4 p q := fun p q => by
  cases c
  · show q ∈ nbD stepL p ↔ _
    rw [nbD_four]; exact mem_nbF
  · exact mem_stepE
/-- The pixels of a part, in reading order. -/
def spC2T (L : List Bool) (W H : Nat) (c : Bool) (a : Cell) : List (Int × Int) := spB (rchL (stC c) (colL L c) W H a) W (W * H)
theorem spT_mem {L : List Bool} {W H : Nat} {c : Bool} (hL : L.length = W * H) (hW : W ≤ 20) (hH : H ≤ 20) {a z : Cell} (ha : okC L W H c a = true) : z ∈ spC2T L W H c a ↔ (pcI L W H).Same a z := by
  have hW0 : 0 < W := by
    have := (okC_iff.1 ha).1
    have := hasB_iff.1 (has_iff.1 this)
    omega
  have R : ∀ q, (rchF (nbD (stC c)) (okI (colL L c) W H) (W * H) a q).isSome = true ↔ (pcI L W H).Same a q := fun q => by
    rw [okI_col hL]
    exact (rchB_iff (okB_C L c hW hH) ha).trans (rch_same (nbD_C c) ha)
  have G : ∀ x y, x < W → y < H → (rchL (stC c) (colL L c) W H a).getD (y * W + x) false = (rchF (nbD (stC c)) (okI (colL L c) W H) (W * H) a ((x : Int), (y : Int))).isSome := fun x y hx hy => by
    rw [rchL, bTo_get (pl_lt hx hy), rO_at _ hx]
  rw [spC2T, spB_mem hW0]
  constructor
  · rintro ⟨x, y, rfl, hx, hy, h⟩
    rw [G x y hx hy] at h
    exact (R _).1 h
  · intro h
    obtain ⟨z1, z2⟩ := z
    have := hasB_iff.1 (has_iff.1 h.hasR)
    simp only at this
    obtain ⟨x, rfl⟩ : ∃ k : Nat, z1 = k := ⟨z1.toNat, by omega⟩
    obtain ⟨y, rfl⟩ : ∃ k : Nat, z2 = k := ⟨z2.toNat, by omega⟩
    refine ⟨x, y, rfl, by omega, by omega, ?_⟩
    rw [G x y (by omega) (by omega)]
    exact (R _).2 h
theorem spT_len (L : List Bool) (W H : Nat) (c : Bool) (a : Cell) : (spC2T L W H c a).length ≤ W * H := spB_len _ _ _
/-- Which pixels have been seen, as a list. -/
def sO (W : Nat) (s : Cell → Bool) (i : Nat) : Bool := s (((i % W : Nat) : Int), ((i / W : Nat) : Int))
theorem sO_at {W : Nat} (s : Cell → Bool) {x y : Nat} (hx : x < W) : sO W s (y * W + x) = s ((x : Int), (y : Int)) := by
  rw [sO, plM hx, plD hx]
theorem sO_put {W N : Nat} (s : Cell → Bool) {x y : Nat} (hx : x < W) : (bTo (sO W s) N).set (y * W + x) true = bTo (sO W fun z => s z || decide (z = ((x : Int), (y : Int)))) N := by
  apply List.ext_getElem
  · simp [bTo]
  · intro i h1 h2
    rw [List.getElem_set]
    simp only [bTo, List.getElem_map, List.getElem_range]
    split
    · rename_i e
      subst e
      rw [sO_at _ hx]; simp
    · rename_i e
      have : ¬ ((((i % W : Nat) : Int), ((i / W : Nat) : Int)) = ((x : Int), (y : Int))) := by
        intro h
        rw [Prod.mk.injEq] at h
        have hW : 0 < W := by omega
        have := (pl_eq (W := W) i hW).1
        have h1 : i % W = x := by have := h.1; omega
        have h2 : i / W = y := by have := h.2; omega
        rw [h1, h2] at this
        exact e this.symm
      show s _ = (s _ || decide _)
      rw [decide_eq_false this, Bool.or_false]
theorem seen_cell {w : World} {g W H x y : Nat} {s : Cell → Bool} (h : Blk w g 4 (boolC (bTo (sO W s) (W * H)))) (hx : x < W) (hy : y < H) : w.cell? ⟨g, y * W + x, none⟩ = some (.bool (s ((x : Int), (y : Int)))) := by
  have hp := pl_lt hx hy
  rw [h.cell, boolC_get _ _ (by rw [bTo_length]; exact hp)]
  simp only [bTo, List.getElem_map, List.getElem_range]
  rw [sO_at _ hx]
theorem seen_put {w : World} {g W H x y : Nat} {s : Cell → Bool} (h : Blk w g 4 (boolC (bTo (sO W s) (W * H)))) (hx : x < W) : Blk (w.setCell ⟨g, y * W + x, none⟩ (.bool true)) g 4 (boolC (bTo (sO W fun z => s z || decide (z = ((x : Int), (y : Int)))) (W * H))) := by
  have := h.store (y * W + x) (.bool true)
  rw [boolC_set, sO_put _ hx] at this
  exact this
theorem PicAt.chgT {S : Nat → Prop} {w w' : World} {p ga c : Nat} {rows : List ByteArray} (h : PicAt w p (some ⟨ga, 0, none⟩) c rows) (hc : Chg S w w') (hp : ¬ S p) (hg : ¬ S ga) : PicAt w' p (some ⟨ga, 0, none⟩) c rows :=
  ⟨Nat.lt_of_lt_of_le h.lt hc.size, (hc.cell (p := ⟨p, 0, none⟩) h.lt hp).trans h.cell, fun hn => by
    obtain ⟨g, e, hl, hr⟩ := h.rd hn
    cases e
    exact ⟨_, rfl, Nat.lt_of_lt_of_le hl hc.size, fun i hi => (hc.cell (p := ⟨_, i, none⟩) hl hg).trans (hr i hi)⟩⟩
theorem own_own_neT {w : World} {b1 b2 : Nat} {e1 e2 : TypeId} {s1 s2 n1 n2 : Nat} {v1 v2 : Value} {x1 x2 : List Value} (h1 : w.ownsRow b1 e1 s1 v1 n1 x1) (h2 : w.ownsRow b2 e2 s2 v2 n2 x2) (hne : e1 ≠ e2) {g : Nat} (hg : v1.ownBlock = some g) : v2.ownBlock ≠ some g := by
  intro hg2
  obtain ⟨k, hk⟩ : ∃ k, k = g := ⟨_, rfl⟩
  rcases h1.2 with ⟨e, _⟩ | ⟨g1, c1, cur1, e, _, hb1, _⟩
  · rw [e] at hg; cases hg
  · rcases h2.2 with ⟨e', _⟩ | ⟨g2, c2, cur2, e', _, hb2, _⟩
    · rw [e'] at hg2; cases hg2
    · rw [e] at hg; rw [e'] at hg2
      have h1 : g1 = g := by simpa [Value.ownBlock] using hg
      have h2 : g2 = g := by simpa [Value.ownBlock] using hg2
      rw [h1] at hb1; rw [h2] at hb2
      rw [hb1] at hb2
      simp only [Option.some.injEq, Obj.cells.injEq] at hb2
      exact hne hb2.2.1
/-- What lies in memory while the reference visits a part. -/
structure NsJ (w0 : World) (mp ga cc gs : Nat) (rows : List ByteArray) (W H : Nat) (gp gt cp : Nat) (SP ST : List (Int × Int)) (gc cd : Nat) (K : List Kid) (s : Cell → Bool) (wr : World) : Prop where
  pic : PicAt wr mp (some ⟨ga, 0, none⟩) cc rows
  seen : Blk wr gs 4 (boolC (bTo (sO W s) (W * H)))
  spots : wr.ownsRow w0.heap.size 38 2 (.slice (some ⟨gp, 0, none⟩) SP.length cp) SP.length (spL SP)
  steps : Blk wr gt 38 (spC ST)
  row : wr.ownsRow w0.heap.size 9 1 (.slice (some ⟨gc, 0, none⟩) K.length cd) K.length ((srtC (K.map fun e => e.2.1)).map encStr)
  chg : Chg (fun b => b = gs ∨ w0.heap.size ≤ b) w0 wr
  hm : mp < w0.heap.size ∧ mp ≠ gs
  ha : ga < w0.heap.size ∧ ga ≠ gs
  hs : gs < w0.heap.size
  hp : w0.heap.size ≤ gp
  ht : w0.heap.size ≤ gt
section
variable {w0 : World} {mp ga cc gs W H gp gt cp gc cd : Nat} {rows : List ByteArray} {SP ST : List (Int × Int)} {K : List Kid} {s s' : Cell → Bool} {wr w' : World}
theorem NsJ.neT (h : NsJ w0 mp ga cc gs rows W H gp gt cp SP ST gc cd K s wr) : gc ≠ gp ∧ gc ≠ gt := by
  constructor
  · have := own_own_neT h.row h.spots (by decide) (g := gc) rfl
    simpa [Value.ownBlock, eq_comm] using this
  · have := own_blk_ne h.row h.steps (by decide)
    simpa [Value.ownBlock] using this
theorem NsJ.move (h : NsJ w0 mp ga cc gs rows W H gp gt cp SP ST gc cd K s wr) {S : Nat → Prop} (hc : Chg S wr w') (hS : ∀ b, S b → b < wr.heap.size → b = gs) (hs : Blk w' gs 4 (boolC (bTo (sO W s') (W * H)))) :
    NsJ w0 mp ga cc gs rows W H gp gt cp SP ST gc cd K s' w' := by
  obtain ⟨m1, m2⟩ := h.hm
  obtain ⟨a1, a2⟩ := h.ha
  have b1 := h.hs; have b2 := h.hp; have b3 := h.ht
  obtain ⟨n1, n2⟩ := h.neT
  have z := h.chg.size
  have gl := h.row.lt gc rfl
  have gg := (h.spots.lt gp rfl).2
  have gt' := h.steps.lt
  have K' : ∀ b, b < wr.heap.size → b ≠ gs → ¬ S b := fun b hb h1 h2 => h1 (hS b h2 hb)
  refine ⟨h.pic.chgT hc (K' _ (by omega) m2) (K' _ (by omega) a2), hs, hc.own h.spots (fun q hq => (show q = gp by simpa [Value.ownBlock] using hq.symm) ▸ K' gp gg (by omega)), hc.blk h.steps (K' _ gt' (by omega)), hc.own h.row (fun q hq => ?_), ?_, h.hm, h.ha, b1, b2, b3⟩
  · have : q = gc := by simpa [Value.ownBlock] using hq.symm
    subst this
    exact K' q gl.2 (by omega)
  · refine ⟨hc.os.trans h.chg.os, hc.tape.trans h.chg.tape, hc.output.trans h.chg.output, Nat.le_trans z hc.size, fun k hk hn => ?_⟩
    refine (hc.block k (by omega) (fun h3 => ?_)).trans (h.chg.block k hk hn)
    have := hS k h3 (by omega)
    omega
theorem NsJ.step (h : NsJ w0 mp ga cc gs rows W H gp gt cp SP ST gc cd K s wr) (hb : Below wr.heap.size wr w') : NsJ w0 mp ga cc gs rows W H gp gt cp SP ST gc cd K s w' :=
  h.move (Chg.of_below hb) (fun _ h1 h2 => by omega) (h.seen.under hb h.seen.lt)
/-- A code more. -/
theorem NsJ.app (h : NsJ w0 mp ga cc gs rows W H gp gt cp SP ST gc cd K s wr) {e : Kid} {gc' cd' : Nat} (hc : Chg (fun b => b = gc) wr w') (hrow : w'.ownsRow w0.heap.size 9 1 (.slice (some ⟨gc', 0, none⟩) (K.length + 1) cd') (K.length + 1) ((insT (srtC (K.map fun e => e.2.1)) e.2.1).map encStr)) :
    NsJ w0 mp ga cc gs rows W H gp gt cp SP ST gc' cd' (K ++ [e]) s w' := by
  obtain ⟨m1, m2⟩ := h.hm
  obtain ⟨a1, a2⟩ := h.ha
  have b1 := h.hs; have b2 := h.hp; have b3 := h.ht
  obtain ⟨n1, n2⟩ := h.neT
  have z := h.chg.size
  have gl := h.row.lt gc rfl
  have gg := (h.spots.lt gp rfl).2
  have gt' := h.steps.lt
  refine ⟨h.pic.chgT hc (by omega) (by omega), hc.blk h.seen (by omega), hc.own h.spots (fun q hq => (show q = gp by simpa [Value.ownBlock] using hq.symm) ▸ (by omega)), hc.blk h.steps (by omega), ?_, ?_, h.hm, h.ha, b1, b2, b3⟩
  · rw [insT_srt] at hrow
    rw [List.length_append, List.length_singleton, List.map_append, List.map_singleton]
    exact hrow
  · refine ⟨hc.os.trans h.chg.os, hc.tape.trans h.chg.tape, hc.output.trans h.chg.output, Nat.le_trans z hc.size, fun k hk hn => ?_⟩
    exact (hc.block k (by omega) (by omega)).trans (h.chg.block k hk hn)
end
end Go.Proofs.YtdhajndmebnknaaGreat
