/- The library's sort and search at numbers of a call's own. The program's visit of the parts of a picture. The reference's insertion of a code among codes in order. -/
import Derived.Test.YtdhajndmebnknaaEq
import Derived.Test.YtdhajndmebnknaaShelf
import Derived.Sort.Grow
import Derived.Test.YtdhajndmebnknaaTopL
import Derived.Test.YtdhajndmebnknaaMapR
import Derived.Test.YtdhajndmebnknaaPicL
import Derived.Deep.RegionHeld3
import Derived.Deep.CutRange
import Derived.Deep.DeepCutAuto
namespace Go.Proofs.Ytdhajndmebnknaa
open Go.RowKit
open Go.Sort

section
variable {α : Type} [Inhabited α] {enc : α → Value}
theorem heap_put {w : World} {g n : Nat} {os : Array Obj} {cur : Array Value} {e : TypeId} {fr : Nat × Nat} (d : Array α) (hb : w.heap[g]? = some (.cells cur e fr)) :
    (grow (putRow enc (Sort.ahead w n) g 0 d) os).heap[g]? = some (.cells (putCells enc 0 d cur) e fr) := by
  have hg : g < w.heap.size := (Array.getElem?_eq_some_iff.1 hb).1
  rw [heap_grow_old _ _ (by simpa using hg)]
  simp [putRow, mapBlock, Sort.ahead, Array.getElem?_modify, hb, onCells]
theorem grown_put {w : World} {g n : Nat} {os : Array Obj} (d : Array α) : w.grownBy (grow (putRow enc (Sort.ahead w n) g 0 d) os) (some g) := by
  refine ⟨rfl, rfl, rfl, by simp, fun k hk hne => ?_⟩
  rw [heap_grow_old _ _ (by simpa using hk)]
  have : g ≠ k := fun e => hne (by rw [e])
  simp [putRow, mapBlock, Sort.ahead, Array.getElem?_modify, this]
theorem take_put (cur : Array Value) (ts : List α) (h : ts.length ≤ cur.size) : (putCells enc 0 ts.toArray cur).toList.take ts.length = ts.map enc := by
  apply List.ext_getElem?
  intro j
  by_cases hj : j < ts.length
  · rw [List.getElem?_take_of_lt hj, Array.getElem?_toList]
    simp [putCells, hj, show j < cur.size by omega]
  · rw [List.getElem?_take_eq_none (by omega), List.getElem?_eq_none (by simp; omega)]
/-- What an own slice of one-cell elements holds, in the sort's words. -/
theorem own_holds {w : World} {base g cap n : Nat} {e : TypeId} {L : List α} (h : w.ownsRow base e 1 (.slice (some ⟨g, 0, none⟩) n cap) n (L.map enc)) (hn : L.length = n) : Holds enc w g 0 L.toArray ∧ g < w.heap.size := by
  refine ⟨fun j hj => ?_, (h.lt g rfl).2⟩
  have hj' : j < L.length := by simpa using hj
  refine ⟨?_, ?_⟩
  · rw [Nat.zero_add, h.cellAt j (by omega)]
    simp [hj']
  · rw [Nat.zero_add]; exact h.frozenAt j
/-- Behind a call that lays a list of that length, the slice owns it. -/
theorem own_put {w : World} {base g cap n m : Nat} {e : TypeId} {os : Array Obj} {L M : List α} (h : w.ownsRow base e 1 (.slice (some ⟨g, 0, none⟩) n cap) n (L.map enc)) (hm : M.length = n) :
    (grow (putRow enc (Sort.ahead w m) g 0 M.toArray) os).ownsRow base e 1 (.slice (some ⟨g, 0, none⟩) n cap) n (M.map enc) := by
  rcases h.2 with ⟨hv, _⟩ | ⟨g', cap', cur, hv, hbase, hb, h1, h2, h3, h4⟩
  · cases hv
  · simp only [Value.slice.injEq, Option.some.injEq, Addr.mk.injEq] at hv
    obtain ⟨⟨rfl, _⟩, _, rfl⟩ := hv
    refine ⟨by simp [hm], .inr ⟨g, cap, _, rfl, hbase, heap_put _ hb, h1, h2, by simp [putCells, h3], ?_⟩⟩
    rw [Nat.mul_one, ← hm]
    exact take_put cur M (by omega)
end

end Go.Proofs.Ytdhajndmebnknaa

namespace Go.Proofs.Ytdhajndmebnknaa
open Go.RowKit

def kcV (L : List Kid) : List Value := L.map fun e => .string ⟨e.2.1.toArray⟩
/-- What lies in memory while a part is visited. -/
structure TpJ (w0 : World) (M B b4 b6 p g W H r gc cc : Nat) (L : List Bool) (c : Bool) (pf s : Cell → Bool) (left : Cell → Bool) (cnt : Nat) (K : List Kid) (wr : World) : Prop where
  img : Img wr p g W H L
  bx4 : Blk wr b4 57 #[.pointer (some ⟨p, 0, none⟩)]
  bx6 : Blk wr b6 4 #[.bool c]
  seen : MapF spV spOk wr M (bs s)
  rng : RngF spV spOk wr B r (bs pf) left cnt
  row : wr.ownsRow w0.heap.size 9 1 (.slice (some ⟨gc, 0, none⟩) K.length cc) K.length (kcV K)
  chg : Chg (fun b => b = M ∨ w0.heap.size ≤ b) w0 wr
  hp : p < w0.heap.size
  hg : g < w0.heap.size
  hB : B < w0.heap.size
  hM : M < w0.heap.size
  h4 : w0.heap.size ≤ b4
  h6 : w0.heap.size ≤ b6
  hr : w0.heap.size ≤ r
  ne : B ≠ M ∧ r ≠ b4 ∧ r ≠ b6 ∧ r ≠ gc ∧ gc ≠ b4 ∧ gc ≠ b6
section
variable {w0 : World} {M B b4 b6 p g W H r gc cc : Nat} {L : List Bool} {c : Bool} {pf s s' : Cell → Bool} {left left' : Cell → Bool} {cnt cnt' : Nat} {K : List Kid} {wr w' : World}
theorem Chg.of_rowT {w w' : World} {row : Option Nat} (h : w.grownBy w' row) : Chg (fun b => row = some b) w w' :=
  ⟨h.os, h.tape, h.output, h.size, fun k hk hs => h.block k hk (fun e => hs e.symm)⟩
theorem MapF.chgM {κ : Type} {kv : κ → Value} {good : κ → Prop} {f : κ → Option Value} {S : Nat → Prop} {w w' : World} {B : Nat} (h : MapF kv good w B f) (hc : Chg S w w') (hs : ¬ S B) : MapF kv good w' B f := h.of_block (hc.block B h.lt hs)
theorem RngF.chgM {κ : Type} {kv : κ → Value} {good : κ → Prop} {f : κ → Option Value} {S : Nat → Prop} {w w' : World} {B r : Nat} {left : κ → Bool} {cnt : Nat} (h : RngF kv good w B r f left cnt) (hc : Chg S w w') (hs : ¬ S B) (hr : ¬ S r) : RngF kv good w' B r f left cnt := h.of_blocks (hc.block B h.map.lt hs) (hc.block r h.lt hr)
theorem SpAt.chgM {S : Nat → Prop} {w w' : World} {g : Nat} {l : List (Int × Int)} (h : SpAt w g l) (hc : Chg S w w') (hs : ¬ S g) : SpAt w' g l :=
  ⟨Nat.lt_of_lt_of_le h.1 hc.size, fun i hi => ⟨(hc.cell (p := ⟨g, _, none⟩) h.1 hs).trans (h.2 i hi).1, (hc.cell (p := ⟨g, _, none⟩) h.1 hs).trans (h.2 i hi).2⟩⟩
theorem map_ne {κ : Type} {kv : κ → Value} {good : κ → Prop} {f : κ → Option Value} {w : World} {B q : Nat} {t : TypeId} {cs : Array Value} (h : MapF kv good w B f) (hb : Blk w q t cs) : q ≠ B := by
  rintro rfl
  obtain ⟨es, ck, h1, _⟩ := h
  rw [Blk, h1] at hb
  cases hb
theorem TpJ.move (h : TpJ w0 M B b4 b6 p g W H r gc cc L c pf s left cnt K wr) {S : Nat → Prop} (hc : Chg S wr w') (hS : ∀ b, S b → b < wr.heap.size → b = M ∨ (w0.heap.size ≤ b ∧ b ≠ b4 ∧ b ≠ b6 ∧ b ≠ r ∧ b ≠ gc)) (hs : MapF spV spOk w' M (bs s')) :
    TpJ w0 M B b4 b6 p g W H r gc cc L c pf s' left cnt K w' := by
  have a1 := h.hp; have a2 := h.hg; have a3 := h.hB; have a4 := h.hM; have a5 := h.h4; have a6 := h.h6; have a7 := h.hr
  obtain ⟨n1, n2, n3, n4, n5, n6⟩ := h.ne
  have z := h.chg.size
  have pM := map_ne h.seen h.img.hdr
  have gM := map_ne h.seen h.img.bits
  have gl := h.row.lt gc rfl
  have K' : ∀ b, b < wr.heap.size → b ≠ M → (b < w0.heap.size ∨ b = b4 ∨ b = b6 ∨ b = r ∨ b = gc) → ¬ S b := fun b hb h1 h2 h3 => by
    have := hS b h3 hb; omega
  refine ⟨⟨hc.blk h.img.hdr (K' p h.img.hdr.lt pM (by omega)), hc.blk h.img.bits (K' g h.img.bits.lt gM (by omega)), h.img.len⟩, hc.blk h.bx4 (K' b4 h.bx4.lt (by omega) (by omega)), hc.blk h.bx6 (K' b6 h.bx6.lt (by omega) (by omega)), hs,
    h.rng.chgM hc (K' B h.rng.map.lt n1 (by omega)) (K' r h.rng.lt (by omega) (by omega)), hc.own h.row (fun q hq => ?_), ?_, a1, a2, a3, a4, a5, a6, a7, h.ne⟩
  · have : q = gc := by simpa [Value.ownBlock] using hq.symm
    subst this
    exact K' q gl.2 (by omega) (by omega)
  · refine ⟨hc.os.trans h.chg.os, hc.tape.trans h.chg.tape, hc.output.trans h.chg.output, Nat.le_trans z hc.size, fun k hk hn => ?_⟩
    refine (hc.block k (by omega) (fun h3 => ?_)).trans (h.chg.block k hk hn)
    have := hS k h3 (by omega)
    omega
theorem TpJ.step (h : TpJ w0 M B b4 b6 p g W H r gc cc L c pf s left cnt K wr) (hb : Below wr.heap.size wr w') : TpJ w0 M B b4 b6 p g W H r gc cc L c pf s left cnt K w' :=
  h.move (Chg.of_below hb) (fun _ h1 h2 => by omega) (h.seen.ext hb)
/-- A pixel is seen. -/
theorem TpJ.put (h : TpJ w0 M B b4 b6 p g W H r gc cc L c pf s left cnt K wr) (hg : wr.grownBy w' (some M)) (hs : MapF spV spOk w' M (bs s')) : TpJ w0 M B b4 b6 p g W H r gc cc L c pf s' left cnt K w' :=
  h.move (Chg.of_rowT hg) (fun _ h1 _ => .inl (Option.some.inj h1).symm) hs
/-- Another range goes on. -/
theorem TpJ.iter (h : TpJ w0 M B b4 b6 p g W H r gc cc L c pf s left cnt K wr) {q : Nat} (hg : wr.grownBy w' (some q)) (hq : w0.heap.size ≤ q ∧ q ≠ b4 ∧ q ≠ b6 ∧ q ≠ r ∧ q ≠ gc) : TpJ w0 M B b4 b6 p g W H r gc cc L c pf s left cnt K w' :=
  h.move (Chg.of_rowT hg) (fun b h1 _ => .inr (by obtain rfl := Option.some.inj h1; exact hq)) (h.seen.of_block (hg.block M h.seen.lt (by have := h.hM; simp; omega)))
/-- The range of the part goes on. -/
theorem TpJ.next (h : TpJ w0 M B b4 b6 p g W H r gc cc L c pf s left cnt K wr) (hg : wr.grownBy w' (some r)) (hr : RngF spV spOk w' B r (bs pf) left' cnt') : TpJ w0 M B b4 b6 p g W H r gc cc L c pf s left' cnt' K w' := by
  have a1 := h.hp; have a2 := h.hg; have a3 := h.hB; have a4 := h.hM; have a5 := h.h4; have a6 := h.h6; have a7 := h.hr
  obtain ⟨n1, n2, n3, n4, n5, n6⟩ := h.ne
  have hc : Chg (fun b => some r = some b) wr w' := Chg.of_rowT hg
  refine ⟨⟨hc.blk h.img.hdr (by simp; omega), hc.blk h.img.bits (by simp; omega), h.img.len⟩, hc.blk h.bx4 (by simp; omega), hc.blk h.bx6 (by simp; omega), h.seen.chgM hc (by simp; omega), hr, hc.own h.row (fun q hq => ?_), ?_, a1, a2, a3, a4, a5, a6, a7, h.ne⟩
  · have : q = gc := by simpa [Value.ownBlock] using hq.symm
    subst this
    simp; omega
  · have z := h.chg.size
    refine ⟨hc.os.trans h.chg.os, hc.tape.trans h.chg.tape, hc.output.trans h.chg.output, Nat.le_trans z hc.size, fun k hk hn => ?_⟩
    exact (hc.block k (by omega) (by simp; omega)).trans (h.chg.block k hk hn)
/-- A code more. -/
theorem TpJ.app (h : TpJ w0 M B b4 b6 p g W H r gc cc L c pf s left cnt K wr) {o : Obj} {e : Kid} {gc' cc' : Nat} (hg : (wr.alloc o).grownBy w' (some gc)) (hrow : w'.ownsRow w0.heap.size 9 1 (.slice (some ⟨gc', 0, none⟩) (K.length + 1) cc') (K.length + 1) (kcV K ++ [.string ⟨e.2.1.toArray⟩])) (hat : some gc = some gc' ∨ gc' = (wr.alloc o).heap.size) :
    TpJ w0 M B b4 b6 p g W H r gc' cc' L c pf s left cnt (K ++ [e]) w' := by
  have I := h.step (Ext.more (Ext.refl wr) o)
  have a1 := I.hp; have a2 := I.hg; have a3 := I.hB; have a4 := I.hM; have a5 := I.h4; have a6 := I.h6; have a7 := I.hr
  obtain ⟨n1, n2, n3, n4, n5, n6⟩ := I.ne
  have gl := I.row.lt gc rfl
  have hc : Chg (fun b => some gc = some b) (wr.alloc o) w' := Chg.of_rowT hg
  have x4 := I.bx4.lt; have x6 := I.bx6.lt; have xr := I.rng.lt
  refine ⟨⟨hc.blk I.img.hdr (by simp; omega), hc.blk I.img.bits (by simp; omega), I.img.len⟩, hc.blk I.bx4 (by simp; omega), hc.blk I.bx6 (by simp; omega), I.seen.chgM hc (by simp; omega), I.rng.chgM hc (by simp; omega) (by simp; omega), by simpa [kcV] using hrow, ?_, a1, a2, a3, a4, a5, a6, a7, ?_⟩
  · have z := I.chg.size
    refine ⟨hc.os.trans I.chg.os, hc.tape.trans I.chg.tape, hc.output.trans I.chg.output, Nat.le_trans z hc.size, fun k hk hn => ?_⟩
    exact (hc.block k (by omega) (by simp; omega)).trans (I.chg.block k hk hn)
  · rcases hat with e | e
    · obtain rfl := Option.some.inj e
      exact I.ne
    · exact ⟨n1, n2, n3, by omega, by omega, by omega⟩
end
theorem kcV_snoc (K : List Kid) (e : Kid) : kcV (K ++ [e]) = kcV K ++ [.string ⟨e.2.1.toArray⟩] := by simp [kcV]
theorem kcV_enc (K : List Kid) : kcV K = (K.map fun e => e.2.1).map encStr := by
  simp [kcV, encStr, Function.comp_def]
open Go.Sort in
theorem sortT_any {base g cap n : Nat} {L : List Txt} (w : World) (h : w.ownsRow base 9 1 (.slice (some ⟨g, 0, none⟩) n cap) n (L.map encStr)) (hn : L.length = n) (hb : n ≤ 1000000000) :
    Calls Try.prog 88 #[.slice (some ⟨g, 0, none⟩) n cap] w fun e w' => e = .returned (.tuple #[]) ∧ w'.ownsRow base 9 1 (.slice (some ⟨g, 0, none⟩) n cap) n ((srtC L).map encStr) ∧ w.grownBy w' (some g) := by
  obtain ⟨h1, h2⟩ := own_holds (enc := encStr) h hn
  have C := Try.slices_Sort_string g 0 cap L w h1 h2 (by omega)
  rw [hn] at C
  refine C.mono ?_
  rintro e w' ⟨rfl, m, os, rfl⟩
  exact ⟨rfl, own_put h (by rw [List.length_mergeSort, hn]), grown_put _⟩
open Go.Sort in
theorem joinT_any {base g cap n : Nat} {L : List Txt} (w : World) (h : w.ownsRow base 9 1 (.slice (some ⟨g, 0, none⟩) n cap) n (L.map encStr)) (hn : L.length = n) (hb : n ≤ 1000000) (hc : n ≤ cap) (hl : L.flatten.length ≤ 1000000) :
    Calls Try.prog 89 #[.slice (some ⟨g, 0, none⟩) n cap, .string ⟨#[]⟩] w fun e w' => e = .returned (.string ⟨L.flatten.toArray⟩) ∧ Below w.heap.size w w' := by
  have e0 : (L.map fun l => (⟨l.toArray⟩ : ByteArray)).map (·.data.toList) = L := by simp [Function.comp_def]
  have e1 : Lib.join L ([] : Txt) = L.flatten := by
    cases L with
    | nil => rfl
    | cons a l => rw [Lib.join_cons]; simp [Lib.joinTail]
  have C := Try.strings_Join g 0 cap (L.map fun l => (⟨l.toArray⟩ : ByteArray)) ⟨#[]⟩ w (fun j x hj => by
    rw [List.getElem?_map] at hj
    cases hLj : L[j]? with
    | none => rw [hLj] at hj; cases hj
    | some l =>
      rw [hLj] at hj
      cases hj
      have hjl : j < L.length := by
        by_cases hlt : j < L.length
        · exact hlt
        · rw [List.getElem?_eq_none (by omega)] at hLj; cases hLj
      rw [Nat.zero_add, h.cellAt j (by omega), List.getElem?_map, hLj]
      rfl) (h.lt g rfl).2 (by rw [List.length_map, hn]; omega) (by rw [List.length_map, hn]; exact hc) (by
    rw [e0]
    show (Lib.join L ([] : Txt)).length ≤ _
    rw [e1]; omega)
  rw [e0, List.length_map, hn] at C
  refine C.mono ?_
  rintro e w' ⟨h1, h2⟩
  refine ⟨?_, h2⟩
  rw [h1]
  show Ending.returned (.string ⟨(Lib.join L ([] : Txt)).toArray⟩) = _
  rw [e1]
end Go.Proofs.Ytdhajndmebnknaa

namespace Go.Proofs.Ytdhajndmebnknaa
open Go.RowKit

theorem own_preT {w : World} {base : Nat} {e : TypeId} {size g n cap k : Nat} {xs : List Value} (h : w.ownsRow base e size (.slice (some ⟨g, 0, none⟩) n cap) n xs) (hk : k ≤ n) : w.ownsRow base e size (.slice (some ⟨g, 0, none⟩) k cap) k (xs.take (k * size)) := by
  rcases h.2 with ⟨hv, _⟩ | ⟨g', cap', cur, hv, hbase, hb, h1, h2, h3, h4⟩
  · cases hv
  · simp only [Value.slice.injEq, Option.some.injEq, Addr.mk.injEq] at hv
    obtain ⟨⟨rfl, _⟩, _, rfl⟩ := hv
    have hl := h.1
    have hks : k * size ≤ n * size := Nat.mul_le_mul_right _ hk
    refine ⟨by rw [List.length_take, hl]; omega, .inr ⟨g, cap, cur, rfl, hbase, hb, Nat.le_trans hk h1, h2, h3, ?_⟩⟩
    rw [← h4, List.take_take]
    congr 1
    omega
/-- Append of a slice to one of the call's own. -/
theorem wpList_appUT {T e : TypeId} {z : Value} {size bytes : Nat} (E : ElemT T e z size bytes) {w : World} {ops : Array Oper} {rest : List Oper} {o : Oper} {a : Act} {Q : Exit → Act → World → Prop} (hgd : o.guard = none) (s x : Operand)
    (ho : o.op = .call { callee := .builtin .append, args := #[s, x], argTypes := #[T, T] })
    (base : Nat) (g0 n c0 : Nat) (xs : List Value) (hs : a.eval s = .slice (some ⟨g0, 0, none⟩) n c0) (hown : w.ownsRow base e size (.slice (some ⟨g0, 0, none⟩) n c0) n xs)
    (ad : Addr) (m c : Nat) (news : List Value) (hx : a.eval x = .slice (some ad) m c) (hl : news.length = m * size) (hnews : ∀ j u, news[j]? = some u → w.cell? (ad.add j) = some u) (h1 : ∀ u ∈ news, u.oneCell' = true)
    (N : Nat) (ys : List Value) (hN : n + m = N) (hys : xs ++ news = ys) (hn : N ≤ 1000000000) (hbase : base ≤ w.heap.size)
    (h : ∀ g cap w', w'.ownsRow base e size (.slice (some ⟨g, 0, none⟩) N cap) N ys → w.grownBy w' (some g0) → wpList Try.prog ops Q rest (a.put o.dst (.slice (some ⟨g, 0, none⟩) N cap)) w') : wpList Try.prog ops Q (o :: rest) a w := by
  subst hN
  subst hys
  obtain ⟨i0, hi, hz0, hz1, hz2⟩ := info_parts E.info
  have hsm := E.small
  refine wpList_append_own w hgd s x T ho base e i0 z size bytes E.under hi hz0 hz1 hz2 E.cells E.pos _ n xs hs hown ad m c news hx hl hnews h1 (by unfold maxLen; omega) ?_ hbase ?_
  · have : (n + m) * bytes ≤ 1000000001 * 64 := Nat.mul_le_mul (by omega) hsm
    omega
  · intro v' w' hown' hg hnil
    have hne : v' ≠ .slice none 0 0 := fun e => by
      have := (hnil.1 e).1
      cases this
    rcases hown'.2 with ⟨e, _⟩ | ⟨g', c', _, rfl, _⟩
    · exact absurd e hne
    · exact h g' c' w' hown' hg
/-- A text put into texts in ascending order. -/
def insT (l : List Txt) (c : Txt) : List Txt := l.takeWhile (fun x => decide (x < c)) ++ c :: l.dropWhile (fun x => decide (x < c))
theorem insT_at {l : List Txt} {c : Txt} {k : Nat} (hk : k ≤ l.length) (h1 : ∀ i (h : i < l.length), i < k → l[i] < c) (h2 : ∀ h : k < l.length, ¬ l[k] < c) : insT l c = l.take k ++ c :: l.drop k := by
  have key : ∀ (l : List Txt) (k : Nat), k ≤ l.length → (∀ i (h : i < l.length), i < k → l[i] < c) → (∀ h : k < l.length, ¬ l[k] < c) → l.takeWhile (fun x => decide (x < c)) = l.take k ∧ l.dropWhile (fun x => decide (x < c)) = l.drop k := by
    intro l
    induction l with
    | nil => intro k _ _ _; simp
    | cons a l ih =>
      intro k hk h1 h2
      cases k with
      | zero =>
        have : ¬ a < c := h2 (by simp)
        simp [this]
      | succ k =>
        have ha : a < c := h1 0 (by simp) (by omega)
        obtain ⟨e1, e2⟩ := ih k (by simpa using hk) (fun i h hi => h1 (i + 1) (by simpa using h) (by omega)) (fun h => h2 (by simpa using h))
        simp [ha, e1, e2]
  obtain ⟨e1, e2⟩ := key l k hk h1 h2
  rw [insT, e1, e2]
theorem insT_srt (cs : List Txt) (c : Txt) : insT (srtC cs) c = srtC (cs ++ [c]) := by
  symm
  refine srt_of ?_ ?_
  · have h1 : ((srtC cs).takeWhile (fun x => decide (x < c)) ++ (srtC cs).dropWhile (fun x => decide (x < c))) = srtC cs := List.takeWhile_append_dropWhile
    have h2 : (insT (srtC cs) c).Perm (c :: (srtC cs)) := by
      rw [insT]
      refine List.perm_middle.trans ?_
      rw [h1]
    refine h2.trans ((List.Perm.cons c (srt_perm cs)).trans ?_)
    exact (List.perm_append_singleton c cs).symm
  · have hs := srt_pair cs
    have h1 : ((srtC cs).takeWhile (fun x => decide (x < c)) ++ (srtC cs).dropWhile (fun x => decide (x < c))) = srtC cs := List.takeWhile_append_dropWhile
    rw [← h1, List.pairwise_append] at hs
    have ht : ∀ x ∈ (srtC cs).takeWhile (fun x => decide (x < c)), x ≤ c := fun x hx => by
      have := List.all_takeWhile (p := fun x => decide (x < c)) (l := srtC cs)
      rw [List.all_eq_true] at this
      have h3 : x < c := by simpa using this x hx
      exact List.le_of_lt h3
    have hd : ∀ x ∈ (srtC cs).dropWhile (fun x => decide (x < c)), c ≤ x := by
      intro x hx
      cases hdw : (srtC cs).dropWhile (fun x => decide (x < c)) with
      | nil => rw [hdw] at hx; simp at hx
      | cons y m =>
        have hy : ¬ y < c := by
          have := List.head?_dropWhile_not (fun x => decide (x < c)) (srtC cs)
          rw [hdw] at this
          simpa using this
        have hcy : c ≤ y := List.not_lt.1 hy
        rw [hdw] at hx
        rcases List.mem_cons.1 hx with rfl | hx
        · exact hcy
        · have h5 := hs.2.1
          rw [hdw, List.pairwise_cons] at h5
          exact List.le_trans hcy (h5.1 x hx)
    rw [insT, List.pairwise_append, List.pairwise_cons]
    refine ⟨hs.1, ⟨hd, hs.2.1⟩, fun a ha b hb => ?_⟩
    rcases List.mem_cons.1 hb with rfl | hb
    · exact ht a ha
    · exact hs.2.2 a ha b hb
set_option maxRecDepth 100000 in
set_option maxHeartbeats 4000000 in
theorem insertT_any (base g n cap : Nat) (l : List Txt) (c : Txt) (w : World) (h : w.ownsRow base 9 1 (.slice (some ⟨g, 0, none⟩) n cap) n (l.map encStr)) (hn : l.length = n) (hb : n ≤ 100000) (hbw : base ≤ w.heap.size) :
    Calls Try.prog 83 #[.slice (some ⟨g, 0, none⟩) n cap, .string ⟨c.toArray⟩] w fun e w' => ∃ g' cap', e = .returned (.slice (some ⟨g', 0, none⟩) (n + 1) cap') ∧ w'.ownsRow base 9 1 (.slice (some ⟨g', 0, none⟩) (n + 1) cap') (n + 1) ((insT l c).map encStr) ∧ Chg (fun b => b = g) w w' := by
  have gl := h.lt g rfl
  have hcap : n ≤ cap := by
    rcases h.2 with ⟨h, _⟩ | ⟨g', cap', cur, h, _, _, hcc, _⟩
    · cases h
    · simp only [Value.slice.injEq] at h
      obtain ⟨_, _, rfl⟩ := h
      exact hcc
  have CE : Hid (∀ k (hk : k < l.length), w.cell? ⟨g, k, none⟩ = some (.string ⟨(l[k]).toArray⟩)) := fun k hk => by
    rw [h.cellAt k (by omega), List.getElem?_map, List.getElem?_eq_getElem hk]; rfl
  have HH := Lib.hid h
  have HN := Lib.hid hn
  have IA := Lib.hid (fun k (hk : k ≤ l.length) h1 h2 => insT_at (l := l) (c := c) (k := k) hk h1 h2)
  clear h hn
  obtain ⟨cb, hcb⟩ : ∃ cb, ByteArray.mk c.toArray = cb := ⟨_, rfl⟩
  have HCB := Lib.hid hcb
  rw [hcb]
  clear hcb
  go_enter Try.func83, Try.ntmps83
  go_wp2_with fail
  go_loopw [5] (fun kv wr => ∃ k : Nat, k ≤ n ∧ kv = .int .i64 k ∧ Hid (∀ i (h : i < l.length), i < k → l[i] < c) ∧ wr = w) (fun kv _ => n - (intOf kv).toNat)
  case atStart => exact ⟨0, Nat.zero_le _, rfl, (fun _ _ h => absurd h (Nat.not_lt_zero _)), rfl⟩
  case round =>
    obtain ⟨k, hk, rfl, hI, hwr⟩ := hrel
    obtain rfl : w = wr := hwr.symm
    have FIN : Hid (∀ (P : Prop), (insT l c = l.take k ++ c :: l.drop k → P) → ((∀ h : k < l.length, ¬ l[k] < c) → P)) := fun P hp h2 => hp (IA.out k (by rw [HN.out]; exact hk) hI.out h2)
    by_cases hlt : k < n
    · have hkl : k < l.length := by rw [HN.out]; exact hlt
      have ck := CE.out k hkl
      have i0 : (0 : Int) ≤ (k : Int) := by omega
      have i1 : (k : Int) < (n : Int) := by omega
      have q1 : decide ((k : Int) < (n : Int)) = true := decide_eq_true i1
      have BL : Op.bytesLess (ByteArray.mk (l[k]).toArray).toList cb.toList = decide (l[k] < c) := by
        rw [ByteArray.toList_eq, ByteArray.toList_eq, ← HCB.out, bytesLess_eq]
      by_cases hless : l[k] < c
      · rw [decide_eq_true hless] at BL
        have HI2 : Hid (∀ i (h : i < l.length), i < k + 1 → l[i] < c) := fun i h hi => by
          rcases Nat.lt_succ_iff_lt_or_eq.1 hi with h1 | rfl
          · exact hI.out i h h1
          · exact hless
        clear hless
        generalize ByteArray.mk (l[k]).toArray = lk at *
        go_wp2_with fail
        go_roundw
        case rel => exact ⟨k + 1, by omega, by go_num, HI2, by trivial⟩
        case measure => simp [intOf]; omega
      · have e := Lib.hid (FIN.out _ (fun h => h) (fun _ => hless))
        rw [decide_eq_false hless] at BL
        clear hless
        generalize ByteArray.mk (l[k]).toArray = lk at *
        go_upto_region 4 with fail
        have k0' : (0 : Int) ≤ (k : Int) := by omega
        have k1' : (k : Int) ≤ (n : Int) := by omega
        have k2' : (n : Int) ≤ (cap : Int) := by omega
        have ev : ((k : Int)).toNat = k := by omega
        have O1 := World.ownsRow_lit (e := 9) (size := 1) w #[] 0 (Nat.le_refl _) (by decide) rfl
        have B1 := Ext.more (Ext.refl w) (.cells #[] 9)
        have H1 := own_ext B1 HH.out
        have NW : Hid (∀ j u, ((l.map encStr).drop k)[j]? = some u → ∀ o, o = k → (w.alloc (.cells #[] 9)).cell? ⟨g, o + j, none⟩ = some u) := fun j u hj o ho => by
          subst ho
          have hlt : o + j < n := by
            by_cases h : o + j < (l.map encStr).length
            · rw [List.length_map, HN.out] at h; exact h
            · rw [List.getElem?_drop, List.getElem?_eq_none (by omega)] at hj; cases hj
          rw [H1.cellAt (o + j) (by omega), ← List.getElem?_drop]
          exact hj
        have DL : Hid (((l.map encStr).drop k).length = (n - k) * 1) := by rw [Hid, List.length_drop, List.length_map, HN.out, Nat.mul_one]
        have ONE : Hid (∀ u ∈ (l.map encStr).drop k, u.oneCell' = true) := fun u hu => by
          obtain ⟨x, _, rfl⟩ := List.mem_map.1 (List.mem_of_mem_drop hu)
          rfl
        have HH1 := Lib.hid H1
        have HO1 := Lib.hid O1
        have z1 : (w.alloc (.cells #[] 9)).heap.size = w.heap.size + 1 := by simp
        clear H1 O1
        go_upto_region 5 with (at_builtin; refine wpList_appUT strT (by rfl) _ _ (by rfl) w.heap.size w.heap.size 0 0 [] (by rfl) HO1.out ⟨g, k, none⟩ (n - k) (cap - k) ((l.map encStr).drop k) (by rfl) DL.out (fun j u hj => by rw [show (⟨g, k, none⟩ : Addr).add j = ⟨g, k + j, none⟩ from by simp [Addr.add]]; exact NW.out j u hj k rfl) ONE.out (n - k) ((l.map encStr).drop k) (by omega) rfl (by omega) (by simp) ?_; intro g3 cap3 w3 hown3 hgrow3)
        have z3 := hgrow3.size
        have g3w := (hown3.lt g3 rfl).1
        have H3 := own_preT (HH1.out.kept hgrow3 (.inr (by simp [Value.ownBlock]; omega))) (show k ≤ n by omega)
        rw [Nat.mul_one] at H3
        have bw3 : base ≤ w3.heap.size := by rw [z1] at z3; omega
        have HX3 := Lib.hid (And.intro H3 (And.intro hown3 hgrow3))
        clear hown3 hgrow3 NW
        go_wp2_with (first
          | (at_builtin; refine wpList_app strT (by rfl) _ _ (by rfl) base (.slice (some ⟨g, 0, none⟩) k cap) k ((l.map encStr).take k) (by rfl) (HX3.out.1.alloc _) w3.heap.size #[.string cb] (by rfl) (heap_alloc_new _ _) rfl (by simp [Value.oneCell']) (by omega) (by simp; omega) ?_; intro g4 cap4 w4 hown4 hgrow4 hat4 hlt4)
          | (at_builtin; have R4 := World.ownsRow.kept (HX3.out.2.1.alloc (.cells #[.string cb] 9)) hgrow4 (.inr (by simp [Value.ownBlock]; omega)); refine wpList_appUT strT (by rfl) _ _ (by rfl) base g4 (k + 1) cap4 ((l.map encStr).take k ++ [.string cb]) (by rfl) (by simpa using hown4) ⟨g3, 0, none⟩ (n - k) cap3 ((l.map encStr).drop k) (by rfl) DL.out (fun j u hj => by
              have hjl : j < n - k := by
                by_cases h : j < ((l.map encStr).drop k).length
                · rw [DL.out, Nat.mul_one] at h; exact h
                · rw [List.getElem?_eq_none (by omega)] at hj; cases hj
              have := R4.cellAt j (by omega)
              rw [hj] at this
              rw [show (⟨g3, 0, none⟩ : Addr).add j = ⟨g3, j, none⟩ from by simp [Addr.add]; omega]
              exact this) ONE.out (n + 1) ((insT l c).map encStr) (by omega) (by rw [e.out, List.map_append, List.map_cons, ← List.map_take, ← List.map_drop, ← HCB.out]; simp) (by omega) (by have := hgrow4.size; simp at this; omega) ?_; intro g5 cap5 w5 hown5 hgrow5))
        have z4 := hgrow4.size
        have C5 : Chg (fun b => b = g ∨ w.heap.size ≤ b) w w5 := by
          have a1 : Chg (fun b => b = g ∨ w.heap.size ≤ b) w (w.alloc (.cells #[] 9)) := (Chg.of_below B1).mono (fun b hb => .inr hb)
          have a2 : Chg (fun b => b = g ∨ w.heap.size ≤ b) (w.alloc (.cells #[] 9)) w3 := (Chg.of_rowT HX3.out.2.2).mono (fun b hb => .inr (by have := Option.some.inj hb; omega))
          have a3 : Chg (fun b => b = g ∨ w.heap.size ≤ b) w3 (w3.alloc (.cells #[.string cb] 9)) := (Chg.of_below (Ext.more (Ext.refl w3) _)).mono (fun b hb => .inr (by rw [z1] at z3; omega))
          have a4 : Chg (fun b => b = g ∨ w.heap.size ≤ b) (w3.alloc (.cells #[.string cb] 9)) w4 := (Chg.of_rowT hgrow4).mono (fun b hb => .inl (by have h0 : g = b := (by simpa [Value.ownBlock] using hb); exact h0.symm))
          have a5 : Chg (fun b => b = g ∨ w.heap.size ≤ b) w4 w5 := (Chg.of_rowT hgrow5).mono (fun b hb => by
            have hb' := Option.some.inj hb
            rcases hat4 with h | h
            · left; have : g = g4 := by simpa [Value.ownBlock] using h
              omega
            · right; simp at h; rw [z1] at z3; omega)
          exact (((a1.trans a2).trans a3).trans a4).trans a5
        have C6 : Chg (fun b => b = g) w w5 := ⟨C5.os, C5.tape, C5.output, C5.size, fun b hb hne => C5.block b hb (by omega)⟩
        have O5 := Lib.hid hown5
        clear hown5 hgrow5 hown4 hgrow4 hat4 hlt4
        go_wp2_with fail
        go_ret
        exact ⟨g5, cap5, rfl, O5.out, C6⟩
    · obtain rfl : k = n := by omega
      have q1 : decide ((k : Int) < (k : Int)) = false := by simp
      have e := Lib.hid (FIN.out _ (fun h => h) (fun h => absurd h (by rw [HN.out]; omega)))
      have E2 : Hid ((insT l c).map encStr = l.map encStr ++ [.string cb]) := by
        rw [Hid, e.out, List.take_of_length_le (by rw [HN.out]; omega), List.drop_of_length_le (by rw [HN.out]; omega), List.map_append, ← HCB.out]
        simp
      have B1 := Ext.more (Ext.refl w) (.cells #[] 9)
      have H1 := Lib.hid (own_ext B1 HH.out)
      have k2' : (k : Int) ≤ (cap : Int) := by omega
      have z1 : (w.alloc (.cells #[] 9)).heap.size = w.heap.size + 1 := by simp
      by_cases hcc : cap - k = 0
      all_goals
        go_upto_region 5 with fail
        go_wp2_with (first
          | (at_builtin; refine wpList_app strT (by rfl) _ _ (by rfl) base (.slice (some ⟨g, 0, none⟩) k _) k (l.map encStr) (by rfl) (H1.out.alloc _) (w.heap.size + 1) #[.string cb] (by rfl) (by have := heap_alloc_new (w.alloc (.cells #[] 9)) (.cells #[.string cb] 9); rwa [z1] at this) rfl (by simp [Value.oneCell']) (by omega) (by simp; omega) ?_; intro g4 cap4 w4 hown4 hgrow4 hat4 hlt4)
          | (at_builtin; refine wpList_appUT strT (by rfl) _ _ (by rfl) base g4 (k + 1) cap4 (l.map encStr ++ [.string cb]) (by rfl) (by simpa using hown4) ⟨w.heap.size, 0, none⟩ 0 0 [] (by rfl) (by simp) (fun j u hj => by cases hj) (by simp) (k + 1) ((insT l c).map encStr) (by omega) (by rw [E2.out]; simp) (by omega) (by have := hgrow4.size; simp at this; omega) ?_; intro g5 cap5 w5 hown5 hgrow5))
        have z4 := hgrow4.size
        have C5 : Chg (fun b => b = g ∨ w.heap.size ≤ b) w w5 := by
          have a1 : Chg (fun b => b = g ∨ w.heap.size ≤ b) w (w.alloc (.cells #[] 9)) := (Chg.of_below B1).mono (fun b hb => .inr hb)
          have a3 : Chg (fun b => b = g ∨ w.heap.size ≤ b) (w.alloc (.cells #[] 9)) ((w.alloc (.cells #[] 9)).alloc (.cells #[.string cb] 9)) := (Chg.of_below (Ext.more (Ext.refl _) _)).mono (fun b hb => .inr (by simp at hb; omega))
          have a4 : Chg (fun b => b = g ∨ w.heap.size ≤ b) ((w.alloc (.cells #[] 9)).alloc (.cells #[.string cb] 9)) w4 := (Chg.of_rowT hgrow4).mono (fun b hb => .inl (by have h0 : g = b := (by simpa [Value.ownBlock] using hb); exact h0.symm))
          have a5 : Chg (fun b => b = g ∨ w.heap.size ≤ b) w4 w5 := (Chg.of_rowT hgrow5).mono (fun b hb => by
            have hb' := Option.some.inj hb
            rcases hat4 with h | h
            · left; have : g = g4 := by simpa [Value.ownBlock] using h
              omega
            · right; simp at h; omega)
          exact ((a1.trans a3).trans a4).trans a5
        have C6 : Chg (fun b => b = g) w w5 := ⟨C5.os, C5.tape, C5.output, C5.size, fun b hb hne => C5.block b hb (by omega)⟩
        have O5 := Lib.hid hown5
        clear hown5 hgrow5 hown4 hgrow4 hat4 hlt4
        go_wp2_with fail
        go_ret
        exact ⟨g5, cap5, rfl, O5.out, C6⟩
end Go.Proofs.Ytdhajndmebnknaa
