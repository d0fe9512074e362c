/- The library's sort and search at numbers of a call's own. The program's visit of the parts of a picture. The reference's insertion of a code among codes in order. -/
import Derived.Test.YtdhajndmebnknaaGreatEq
import Derived.Test.YtdhajndmebnknaaGreatShelf
import Derived.Sort.Grow
import Derived.Test.YtdhajndmebnknaaGreatTopL
import Derived.Test.YtdhajndmebnknaaGreatMapR
import Derived.Test.YtdhajndmebnknaaGreatPicL
import Derived.Deep.RegionHeld3
import Derived.Deep.CutRange
import Derived.Deep.DeepCutAuto
namespace Go.Proofs.YtdhajndmebnknaaGreat
open Go.RowKit
open Go.Sort

section
variable {α : Type} [Inhabited α] {enc : α → Value}
theorem heap_put {w : World} {g n : Nat} {os : Array Obj} {cur : Array Value} {e : TypeId} {fr : Nat × Nat} (d : Array α) (hb : w.heap[g]? = some (.cells cur e fr)) :
    (grow (putRow enc (Sort.ahead w n) g 0 d) os).heap[g]? = some (.cells (putCells enc 0 d cur) e fr) := by
  have hg : g < w.heap.size := (Array.getElem?_eq_some_iff.1 hb).1
  rw [heap_grow_old _ _ (by simpa using hg)]
  simp [putRow, mapBlock, Sort.ahead, Array.getElem?_modify, hb, onCells]
theorem grown_put {w : World} {g n : Nat} {os : Array Obj} (d : Array α) : w.grownBy (grow (putRow enc (Sort.ahead w n) g 0 d) os) (some g) := by
  refine ⟨rfl, rfl, rfl, by simp, fun k hk hne => ?_⟩
  rw [heap_grow_old _ _ (by simpa using hk)]
  have : g ≠ k := fun e => hne (by rw [e])
  simp [putRow, mapBlock, Sort.ahead, Array.getElem?_modify, this]
theorem take_put (cur : Array Value) (ts : List α) (h : ts.length ≤ cur.size) : (putCells enc 0 ts.toArray cur).toList.take ts.length = ts.map enc := by
  apply List.ext_getElem?
  intro j
  by_cases hj : j < ts.length
  · rw [List.getElem?_take_of_lt hj, Array.getElem?_toList]
    simp [putCells, hj, show j < cur.size by omega]
  · rw [List.getElem?_take_eq_none (by omega), List.getElem?_eq_none (by simp; omega)]
/-- What an own slice of one-cell elements holds, in the sort's words. -/
theorem own_holds {w : World} {base g cap n : Nat} {e : TypeId} {L : List α} (h : w.ownsRow base e 1 (.slice (some ⟨g, 0, none⟩) n cap) n (L.map enc)) (hn : L.length = n) : Holds enc w g 0 L.toArray ∧ g < w.heap.size := by
  refine ⟨fun j hj => ?_, (h.lt g rfl).2⟩
  have hj' : j < L.length := by simpa using hj
  refine ⟨?_, ?_⟩
  · rw [Nat.zero_add, h.cellAt j (by omega)]
    simp [hj']
  · rw [Nat.zero_add]; exact h.frozenAt j
/-- Behind a call that lays a list of that length, the slice owns it. -/
theorem own_put {w : World} {base g cap n m : Nat} {e : TypeId} {os : Array Obj} {L M : List α} (h : w.ownsRow base e 1 (.slice (some ⟨g, 0, none⟩) n cap) n (L.map enc)) (hm : M.length = n) :
    (grow (putRow enc (Sort.ahead w m) g 0 M.toArray) os).ownsRow base e 1 (.slice (some ⟨g, 0, none⟩) n cap) n (M.map enc) := by
  rcases h.2 with ⟨hv, _⟩ | ⟨g', cap', cur, hv, hbase, hb, h1, h2, h3, h4⟩
  · cases hv
  · simp only [Value.slice.injEq, Option.some.injEq, Addr.mk.injEq] at hv
    obtain ⟨⟨rfl, _⟩, _, rfl⟩ := hv
    refine ⟨by simp [hm], .inr ⟨g, cap, _, rfl, hbase, heap_put _ hb, h1, h2, by simp [putCells, h3], ?_⟩⟩
    rw [Nat.mul_one, ← hm]
    exact take_put cur M (by omega)
end

end Go.Proofs.YtdhajndmebnknaaGreat

namespace Go.Proofs.YtdhajndmebnknaaGreat
open Go.RowKit

def kcV (L : List Kid) : List Value := L.map fun e => .string ⟨e.2.1.toArray⟩
/-- What lies in memory while a part is visited. -/
structure TpJ (w0 : World) (M B b4 b6 p g W H r gc cc : Nat) (L : List Bool) (c : Bool) (pf s : Cell → Bool) (left : Cell → Bool) (cnt : Nat) (K : List Kid) (wr : World) : Prop where
  img : Img wr p g W H L
  bx4 : Blk wr b4 47 #[.pointer (some ⟨p, 0, none⟩)]
  bx6 : Blk wr b6 4 #[.bool c]
  seen : MapF spV spOk wr M (bs s)
  rng : RngF spV spOk wr B r (bs pf) left cnt
  row : wr.ownsRow w0.heap.size 9 1 (.slice (some ⟨gc, 0, none⟩) K.length cc) K.length (kcV K)
  chg : Chg (fun b => b = M ∨ w0.heap.size ≤ b) w0 wr
  hp : p < w0.heap.size
  hg : g < w0.heap.size
  hB : B < w0.heap.size
  hM : M < w0.heap.size
  h4 : w0.heap.size ≤ b4
  h6 : w0.heap.size ≤ b6
  hr : w0.heap.size ≤ r
  ne : B ≠ M ∧ r ≠ b4 ∧ r ≠ b6 ∧ r ≠ gc ∧ gc ≠ b4 ∧ gc ≠ b6
section
variable {w0 : World} {M B b4 b6 p g W H r gc cc : Nat} {L : List Bool} {c : Bool} {pf s s' : Cell → Bool} {left left' : Cell → Bool} {cnt cnt' : Nat} {K : List Kid} {wr w' : World}
theorem Chg.of_rowT {w w' : World} {row : Option Nat} (h : w.grownBy w' row) : Chg (fun b => row = some b) w w' :=
  ⟨h.os, h.tape, h.output, h.size, fun k hk hs => h.block k hk (fun e => hs e.symm)⟩
theorem MapF.chgM {κ : Type} {kv : κ → Value} {good : κ → Prop} {f : κ → Option Value} {S : Nat → Prop} {w w' : World} {B : Nat} (h : MapF kv good w B f) (hc : Chg S w w') (hs : ¬ S B) : MapF kv good w' B f := h.of_block (hc.block B h.lt hs)
theorem RngF.chgM {κ : Type} {kv : κ → Value} {good : κ → Prop} {f : κ → Option Value} {S : Nat → Prop} {w w' : World} {B r : Nat} {left : κ → Bool} {cnt : Nat} (h : RngF kv good w B r f left cnt) (hc : Chg S w w') (hs : ¬ S B) (hr : ¬ S r) : RngF kv good w' B r f left cnt := h.of_blocks (hc.block B h.map.lt hs) (hc.block r h.lt hr)
theorem SpAt.chgM {S : Nat → Prop} {w w' : World} {g : Nat} {l : List (Int × Int)} (h : SpAt w g l) (hc : Chg S w w') (hs : ¬ S g) : SpAt w' g l :=
  ⟨Nat.lt_of_lt_of_le h.1 hc.size, fun i hi => ⟨(hc.cell (p := ⟨g, _, none⟩) h.1 hs).trans (h.2 i hi).1, (hc.cell (p := ⟨g, _, none⟩) h.1 hs).trans (h.2 i hi).2⟩⟩
theorem map_ne {κ : Type} {kv : κ → Value} {good : κ → Prop} {f : κ → Option Value} {w : World} {B q : Nat} {t : TypeId} {cs : Array Value} (h : MapF kv good w B f) (hb : Blk w q t cs) : q ≠ B := by
  rintro rfl
  obtain ⟨es, ck, h1, _⟩ := h
  rw [Blk, h1] at hb
  cases hb
theorem TpJ.move (h : TpJ w0 M B b4 b6 p g W H r gc cc L c pf s left cnt K wr) {S : Nat → Prop} (hc : Chg S wr w') (hS : ∀ b, S b → b < wr.heap.size → b = M ∨ (w0.heap.size ≤ b ∧ b ≠ b4 ∧ b ≠ b6 ∧ b ≠ r ∧ b ≠ gc)) (hs : MapF spV spOk w' M (bs s')) :
    TpJ w0 M B b4 b6 p g W H r gc cc L c pf s' left cnt K w' := by
  have a1 := h.hp; have a2 := h.hg; have a3 := h.hB; have a4 := h.hM; have a5 := h.h4; have a6 := h.h6; have a7 := h.hr
  obtain ⟨n1, n2, n3, n4, n5, n6⟩ := h.ne
  have z := h.chg.size
  have pM := map_ne h.seen h.img.hdr
  have gM := map_ne h.seen h.img.bits
  have gl := h.row.lt gc rfl
  have K' : ∀ b, b < wr.heap.size → b ≠ M → (b < w0.heap.size ∨ b = b4 ∨ b = b6 ∨ b = r ∨ b = gc) → ¬ S b := fun b hb h1 h2 h3 => by
    have := hS b h3 hb; omega
  refine ⟨⟨hc.blk h.img.hdr (K' p h.img.hdr.lt pM (by omega)), hc.blk h.img.bits (K' g h.img.bits.lt gM (by omega)), h.img.len⟩, hc.blk h.bx4 (K' b4 h.bx4.lt (by omega) (by omega)), hc.blk h.bx6 (K' b6 h.bx6.lt (by omega) (by omega)), hs,
    h.rng.chgM hc (K' B h.rng.map.lt n1 (by omega)) (K' r h.rng.lt (by omega) (by omega)), hc.own h.row (fun q hq => ?_), ?_, a1, a2, a3, a4, a5, a6, a7, h.ne⟩
  · have : q = gc := by simpa [Value.ownBlock] using hq.symm
    subst this
    exact K' q gl.2 (by omega) (by omega)
  · refine ⟨hc.os.trans h.chg.os, hc.tape.trans h.chg.tape, hc.output.trans h.chg.output, Nat.le_trans z hc.size, fun k hk hn => ?_⟩
    refine (hc.block k (by omega) (fun h3 => ?_)).trans (h.chg.block k hk hn)
    have := hS k h3 (by omega)
    omega
theorem TpJ.step (h : TpJ w0 M B b4 b6 p g W H r gc cc L c pf s left cnt K wr) (hb : Below wr.heap.size wr w') : TpJ w0 M B b4 b6 p g W H r gc cc L c pf s left cnt K w' :=
  h.move (Chg.of_below hb) (fun _ h1 h2 => by omega) (h.seen.ext hb)
/-- A pixel is seen. -/
theorem TpJ.put (h : TpJ w0 M B b4 b6 p g W H r gc cc L c pf s left cnt K wr) (hg : wr.grownBy w' (some M)) (hs : MapF spV spOk w' M (bs s')) : TpJ w0 M B b4 b6 p g W H r gc cc L c pf s' left cnt K w' :=
  h.move (Chg.of_rowT hg) (fun _ h1 _ => .inl (Option.some.inj h1).symm) hs
/-- Another range goes on. -/
theorem TpJ.iter (h : TpJ w0 M B b4 b6 p g W H r gc cc L c pf s left cnt K wr) {q : Nat} (hg : wr.grownBy w' (some q)) (hq : w0.heap.size ≤ q ∧ q ≠ b4 ∧ q ≠ b6 ∧ q ≠ r ∧ q ≠ gc) : TpJ w0 M B b4 b6 p g W H r gc cc L c pf s left cnt K w' :=
  h.move (Chg.of_rowT hg) (fun b h1 _ => .inr (by obtain rfl := Option.some.inj h1; exact hq)) (h.seen.of_block (hg.block M h.seen.lt (by have := h.hM; simp; omega)))
/-- The range of the part goes on. -/
theorem TpJ.next (h : TpJ w0 M B b4 b6 p g W H r gc cc L c pf s left cnt K wr) (hg : wr.grownBy w' (some r)) (hr : RngF spV spOk w' B r (bs pf) left' cnt') : TpJ w0 M B b4 b6 p g W H r gc cc L c pf s left' cnt' K w' := by
  have a1 := h.hp; have a2 := h.hg; have a3 := h.hB; have a4 := h.hM; have a5 := h.h4; have a6 := h.h6; have a7 := h.hr
  obtain ⟨n1, n2, n3, n4, n5, n6⟩ := h.ne
  have hc : Chg (fun b => some r = some b) wr w' := Chg.of_rowT hg
  refine ⟨⟨hc.blk h.img.hdr (by simp; omega), hc.blk h.img.bits (by simp; omega), h.img.len⟩, hc.blk h.bx4 (by simp; omega), hc.blk h.bx6 (by simp; omega), h.seen.chgM hc (by simp; omega), hr, hc.own h.row (fun q hq => ?_), ?_, a1, a2, a3, a4, a5, a6, a7, h.ne⟩
  · have : q = gc := by simpa [Value.ownBlock] using hq.symm
    subst this
    simp; omega
  · have z := h.chg.size
    refine ⟨hc.os.trans h.chg.os, hc.tape.trans h.chg.tape, hc.output.trans h.chg.output, Nat.le_trans z hc.size, fun k hk hn => ?_⟩
    exact (hc.block k (by omega) (by simp; omega)).trans (h.chg.block k hk hn)
/-- A code more. -/
theorem TpJ.app (h : TpJ w0 M B b4 b6 p g W H r gc cc L c pf s left cnt K wr) {o : Obj} {e : Kid} {gc' cc' : Nat} (hg : (wr.alloc o).grownBy w' (some gc)) (hrow : w'.ownsRow w0.heap.size 9 1 (.slice (some ⟨gc', 0, none⟩) (K.length + 1) cc') (K.length + 1) (kcV K ++ [.string ⟨e.2.1.toArray⟩])) (hat : some gc = some gc' ∨ gc' = (wr.alloc o).heap.size) :
    TpJ w0 M B b4 b6 p g W H r gc' cc' L c pf s left cnt (K ++ [e]) w' := by
  have I := h.step (Ext.more (Ext.refl wr) o)
  have a1 := I.hp; have a2 := I.hg; have a3 := I.hB; have a4 := I.hM; have a5 := I.h4; have a6 := I.h6; have a7 := I.hr
  obtain ⟨n1, n2, n3, n4, n5, n6⟩ := I.ne
  have gl := I.row.lt gc rfl
  have hc : Chg (fun b => some gc = some b) (wr.alloc o) w' := Chg.of_rowT hg
  have x4 := I.bx4.lt; have x6 := I.bx6.lt; have xr := I.rng.lt
  refine ⟨⟨hc.blk I.img.hdr (by simp; omega), hc.blk I.img.bits (by simp; omega), I.img.len⟩, hc.blk I.bx4 (by simp; omega), hc.blk I.bx6 (by simp; omega), I.seen.chgM hc (by simp; omega), I.rng.chgM hc (by simp; omega) (by simp; omega), by simpa [kcV] using hrow, ?_, a1, a2, a3, a4, a5, a6, a7, ?_⟩
  · have z := I.chg.size
    refine ⟨hc.os.trans I.chg.os, hc.tape.trans I.chg.tape, hc.output.trans I.chg.output, Nat.le_trans z hc.size, fun k hk hn => ?_⟩
    exact (hc.block k (by omega) (by simp; omega)).trans (I.chg.block k hk hn)
  · rcases hat with e | e
    · obtain rfl := Option.some.inj e
      exact I.ne
    · exact ⟨n1, n2, n3, by omega, by omega, by omega⟩
end
theorem kcV_snoc (K : List Kid) (e : Kid) : kcV (K ++ [e]) = kcV K ++ [.string ⟨e.2.1.toArray⟩] := by simp [kcV]
theorem kcV_enc (K : List Kid) : kcV K = (K.map fun e => e.2.1).map encStr := by
  simp [kcV, encStr, Function.comp_def]
open Go.Sort in
theorem sortT_any {base g cap n : Nat} {L : List Txt} (w : World) (h : w.ownsRow base 9 1 (.slice (some ⟨g, 0, none⟩) n cap) n (L.map encStr)) (hn : L.length = n) (hb : n ≤ 1000000000) :
    Calls Tryz.prog 83 #[.slice (some ⟨g, 0, none⟩) n cap] w fun e w' => e = .returned (.tuple #[]) ∧ w'.ownsRow base 9 1 (.slice (some ⟨g, 0, none⟩) n cap) n ((srtC L).map encStr) ∧ w.grownBy w' (some g) := by
  obtain ⟨h1, h2⟩ := own_holds (enc := encStr) h hn
  have C := Tryz.slices_Sort_string g 0 cap L w h1 h2 (by omega)
  rw [hn] at C
  refine C.mono ?_
  rintro e w' ⟨rfl, m, os, rfl⟩
  exact ⟨rfl, own_put h (by rw [List.length_mergeSort, hn]), grown_put _⟩
open Go.Sort in
theorem joinT_any {base g cap n : Nat} {L : List Txt} (w : World) (h : w.ownsRow base 9 1 (.slice (some ⟨g, 0, none⟩) n cap) n (L.map encStr)) (hn : L.length = n) (hb : n ≤ 1000000) (hc : n ≤ cap) (hl : L.flatten.length ≤ 1000000) :
    Calls Tryz.prog 84 #[.slice (some ⟨g, 0, none⟩) n cap, .string ⟨#[]⟩] w fun e w' => e = .returned (.string ⟨L.flatten.toArray⟩) ∧ Below w.heap.size w w' := by
  have e0 : (L.map fun l => (⟨l.toArray⟩ : ByteArray)).map (·.data.toList) = L := by simp [Function.comp_def]
  have e1 : Lib.join L ([] : Txt) = L.flatten := by
    cases L with
    | nil => rfl
    | cons a l => rw [Lib.join_cons]; simp [Lib.joinTail]
  have C := Tryz.strings_Join g 0 cap (L.map fun l => (⟨l.toArray⟩ : ByteArray)) ⟨#[]⟩ w (fun j x hj => by
    rw [List.getElem?_map] at hj
    cases hLj : L[j]? with
    | none => rw [hLj] at hj; cases hj
    | some l =>
      rw [hLj] at hj
      cases hj
      have hjl : j < L.length := by
        by_cases hlt : j < L.length
        · exact hlt
        · rw [List.getElem?_eq_none (by omega)] at hLj; cases hLj
      rw [Nat.zero_add, h.cellAt j (by omega), List.getElem?_map, hLj]
      rfl) (h.lt g rfl).2 (by rw [List.length_map, hn]; omega) (by rw [List.length_map, hn]; exact hc) (by
    rw [e0]
    show (Lib.join L ([] : Txt)).length ≤ _
    rw [e1]; omega)
  rw [e0, List.length_map, hn] at C
  refine C.mono ?_
  rintro e w' ⟨h1, h2⟩
  refine ⟨?_, h2⟩
  rw [h1]
  show Ending.returned (.string ⟨(Lib.join L ([] : Txt)).toArray⟩) = _
  rw [e1]
end Go.Proofs.YtdhajndmebnknaaGreat

namespace Go.Proofs.YtdhajndmebnknaaGreat
open Go.RowKit

theorem own_preT {w : World} {base : Nat} {e : TypeId} {size g n cap k : Nat} {xs : List Value} (h : w.ownsRow base e size (.slice (some ⟨g, 0, none⟩) n cap) n xs) (hk : k ≤ n) : w.ownsRow base e size (.slice (some ⟨g, 0, none⟩) k cap) k (xs.take (k * size)) := by
  rcases h.2 with ⟨hv, _⟩ | ⟨g', cap', cur, hv, hbase, hb, h1, h2, h3, h4⟩
  · cases hv
  · simp only [Value.slice.injEq, Option.some.injEq, Addr.mk.injEq] at hv
    obtain ⟨⟨rfl, _⟩, _, rfl⟩ := hv
    have hl := h.1
    have hks : k * size ≤ n * size := Nat.mul_le_mul_right _ hk
    refine ⟨by rw [List.length_take, hl]; omega, .inr ⟨g, cap, cur, rfl, hbase, hb, Nat.le_trans hk h1, h2, h3, ?_⟩⟩
    rw [← h4, List.take_take]
    congr 1
    omega
/-- Append of a slice to one of the call's own. -/
theorem wpList_appUT {T e : TypeId} {z : Value} {size bytes : Nat} (E : ElemT T e z size bytes) {w : World} {ops : Array Oper} {rest : List Oper} {o : Oper} {a : Act} {Q : Exit → Act → World → Prop} (hgd : o.guard = none) (s x : Operand)
    (ho : o.op = .call { callee := .builtin .append, args := #[s, x], argTypes := #[T, T] })
    (base : Nat) (g0 n c0 : Nat) (xs : List Value) (hs : a.eval s = .slice (some ⟨g0, 0, none⟩) n c0) (hown : w.ownsRow base e size (.slice (some ⟨g0, 0, none⟩) n c0) n xs)
    (ad : Addr) (m c : Nat) (news : List Value) (hx : a.eval x = .slice (some ad) m c) (hl : news.length = m * size) (hnews : ∀ j u, news[j]? = some u → w.cell? (ad.add j) = some u) (h1 : ∀ u ∈ news, u.oneCell' = true)
    (N : Nat) (ys : List Value) (hN : n + m = N) (hys : xs ++ news = ys) (hn : N ≤ 1000000000) (hbase : base ≤ w.heap.size)
    (h : ∀ g cap w', w'.ownsRow base e size (.slice (some ⟨g, 0, none⟩) N cap) N ys → w.grownBy w' (some g0) → wpList Tryz.prog ops Q rest (a.put o.dst (.slice (some ⟨g, 0, none⟩) N cap)) w') : wpList Tryz.prog ops Q (o :: rest) a w := by
  subst hN
  subst hys
  obtain ⟨i0, hi, hz0, hz1, hz2⟩ := info_parts E.info
  have hsm := E.small
  refine wpList_append_own w hgd s x T ho base e i0 z size bytes E.under hi hz0 hz1 hz2 E.cells E.pos _ n xs hs hown ad m c news hx hl hnews h1 (by unfold maxLen; omega) ?_ hbase ?_
  · have : (n + m) * bytes ≤ 1000000001 * 64 := Nat.mul_le_mul (by omega) hsm
    omega
  · intro v' w' hown' hg hnil
    have hne : v' ≠ .slice none 0 0 := fun e => by
      have := (hnil.1 e).1
      cases this
    rcases hown'.2 with ⟨e, _⟩ | ⟨g', c', _, rfl, _⟩
    · exact absurd e hne
    · exact h g' c' w' hown' hg
/-- A text put into texts in ascending order. -/
def insT (l : List Txt) (c : Txt) : List Txt := l.takeWhile (fun x => decide (x < c)) ++ c :: l.dropWhile (fun x => decide (x < c))
theorem insT_at {l : List Txt} {c : Txt} {k : Nat} (hk : k ≤ l.length) (h1 : ∀ i (h : i < l.length), i < k → l[i] < c) (h2 : ∀ h : k < l.length, ¬ l[k] < c) : insT l c = l.take k ++ c :: l.drop k := by
  have key : ∀ (l : List Txt) (k : Nat), k ≤ l.length → (∀ i (h : i < l.length), i < k → l[i] < c) → (∀ h : k < l.length, ¬ l[k] < c) → l.takeWhile (fun x => decide (x < c)) = l.take k ∧ l.dropWhile (fun x => decide (x < c)) = l.drop k := by
    intro l
    induction l with
    | nil => intro k _ _ _; simp
    | cons a l ih =>
      intro k hk h1 h2
      cases k with
      | zero =>
        have : ¬ a < c := h2 (by simp)
        simp [this]
      | succ k =>
        have ha : a < c := h1 0 (by simp) (by omega)
        obtain ⟨e1, e2⟩ := ih k (by simpa using hk) (fun i h hi => h1 (i + 1) (by simpa using h) (by omega)) (fun h => h2 (by simpa using h))
        simp [ha, e1, e2]
  obtain ⟨e1, e2⟩ := key l k hk h1 h2
  rw [insT, e1, e2]
theorem insT_srt (cs : List Txt) (c : Txt) : insT (srtC cs) c = srtC (cs ++ [c]) := by
  symm
  refine srt_of ?_ ?_
  · have h1 : ((srtC cs).takeWhile (fun x => decide (x < c)) ++ (srtC cs).dropWhile (fun x => decide (x < c))) = srtC cs := List.takeWhile_append_dropWhile
    have h2 : (insT (srtC cs) c).Perm (c :: (srtC cs)) := by
      rw [insT]
      refine List.perm_middle.trans ?_
      rw [h1]
    refine h2.trans ((List.Perm.cons c (srt_perm cs)).trans ?_)
    exact (List.perm_append_singleton c cs).symm
  · have hs := srt_pair cs
    have h1 : ((srtC cs).takeWhile (fun x => decide (x < c)) ++ (srtC cs).dropWhile (fun x => decide (x < c))) = srtC cs := List.takeWhile_append_dropWhile
    rw [← h1, List.pairwise_append] at hs
    have ht : ∀ x ∈ (srtC cs).takeWhile (fun x => decide (x < c)), x ≤ c := fun x hx => by
      have := List.all_takeWhile (p := fun x => decide (x < c)) (l := srtC cs)
      rw [List.all_eq_true] at this
      have h3 : x < c := by simpa using this x hx
      exact List.le_of_lt h3
    have hd : ∀ x ∈ (srtC cs).dropWhile (fun x => decide (x < c)), c ≤ x := by
      intro x hx
      cases hdw : (srtC cs).dropWhile (fun x => decide (x < c)) with
      | nil => rw [hdw] at hx; simp at hx
      | cons y m =>
        have hy : ¬ y < c := by
          have := List.head?_dropWhile_not (fun x => decide (x < c)) (srtC cs)
          rw [hdw] at this
          simpa using this
        have hcy : c ≤ y := List.not_lt.1 hy
        rw [hdw] at hx
        rcases List.mem_cons.1 hx with rfl | hx
        · exact hcy
        · have h5 := hs.2.1
          rw [hdw, List.pairwise_cons] at h5
          exact List.le_trans hcy (h5.1 x hx)
    rw [insT, List.pairwise_append, List.pairwise_cons]
    refine ⟨hs.1, ⟨hd, hs.2.1⟩, fun a ha b hb => ?_⟩
    rcases List.mem_cons.1 hb with rfl | hb
    · exact ht a ha
    · exact hs.2.2 a ha b hb
end Go.Proofs.YtdhajndmebnknaaGreat
