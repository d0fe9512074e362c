/- The program's visit of the parts of a picture. -/
import Derived.Test.YtdhajndmebnknaaTopL
import Derived.Test.YtdhajndmebnknaaMapR
import Derived.Test.YtdhajndmebnknaaSrt
import Derived.Test.YtdhajndmebnknaaPicL
import Derived.Test.YtdhajndmebnknaaShelf
namespace Go.Proofs.Ytdhajndmebnknaa
open Go.RowKit

def kcV (L : List Kid) : List Value := L.map fun e => .string ⟨e.2.1.toArray⟩
/-- What lies in memory while a part is visited. -/
structure TpJ (w0 : World) (M B b4 b6 p g W H r gc cc : Nat) (L : List Bool) (c : Bool) (pf s : Cell → Bool) (left : Cell → Bool) (cnt : Nat) (K : List Kid) (wr : World) : Prop where
  img : Img wr p g W H L
  bx4 : Blk wr b4 57 #[.pointer (some ⟨p, 0, none⟩)]
  bx6 : Blk wr b6 4 #[.bool c]
  seen : MapF spV spOk wr M (bs s)
  rng : RngF spV spOk wr B r (bs pf) left cnt
  row : wr.ownsRow w0.heap.size 9 1 (.slice (some ⟨gc, 0, none⟩) K.length cc) K.length (kcV K)
  chg : Chg (fun b => b = M ∨ w0.heap.size ≤ b) w0 wr
  hp : p < w0.heap.size
  hg : g < w0.heap.size
  hB : B < w0.heap.size
  hM : M < w0.heap.size
  h4 : w0.heap.size ≤ b4
  h6 : w0.heap.size ≤ b6
  hr : w0.heap.size ≤ r
  ne : B ≠ M ∧ r ≠ b4 ∧ r ≠ b6 ∧ r ≠ gc ∧ gc ≠ b4 ∧ gc ≠ b6
section
variable {w0 : World} {M B b4 b6 p g W H r gc cc : Nat} {L : List Bool} {c : Bool} {pf s s' : Cell → Bool} {left left' : Cell → Bool} {cnt cnt' : Nat} {K : List Kid} {wr w' : World}
theorem Chg.of_rowT {w w' : World} {row : Option Nat} (h : w.grownBy w' row) : Chg (fun b => row = some b) w w' :=
  ⟨h.os, h.tape, h.output, h.size, fun k hk hs => h.block k hk (fun e => hs e.symm)⟩
theorem MapF.chgM {κ : Type} {kv : κ → Value} {good : κ → Prop} {f : κ → Option Value} {S : Nat → Prop} {w w' : World} {B : Nat} (h : MapF kv good w B f) (hc : Chg S w w') (hs : ¬ S B) : MapF kv good w' B f := h.of_block (hc.block B h.lt hs)
theorem RngF.chgM {κ : Type} {kv : κ → Value} {good : κ → Prop} {f : κ → Option Value} {S : Nat → Prop} {w w' : World} {B r : Nat} {left : κ → Bool} {cnt : Nat} (h : RngF kv good w B r f left cnt) (hc : Chg S w w') (hs : ¬ S B) (hr : ¬ S r) : RngF kv good w' B r f left cnt := h.of_blocks (hc.block B h.map.lt hs) (hc.block r h.lt hr)
theorem SpAt.chgM {S : Nat → Prop} {w w' : World} {g : Nat} {l : List (Int × Int)} (h : SpAt w g l) (hc : Chg S w w') (hs : ¬ S g) : SpAt w' g l :=
  ⟨Nat.lt_of_lt_of_le h.1 hc.size, fun i hi => ⟨(hc.cell (p := ⟨g, _, none⟩) h.1 hs).trans (h.2 i hi).1, (hc.cell (p := ⟨g, _, none⟩) h.1 hs).trans (h.2 i hi).2⟩⟩
theorem map_ne {κ : Type} {kv : κ → Value} {good : κ → Prop} {f : κ → Option Value} {w : World} {B q : Nat} {t : TypeId} {cs : Array Value} (h : MapF kv good w B f) (hb : Blk w q t cs) : q ≠ B := by
  rintro rfl
  obtain ⟨es, ck, h1, _⟩ := h
  rw [Blk, h1] at hb
  cases hb
theorem TpJ.move (h : TpJ w0 M B b4 b6 p g W H r gc cc L c pf s left cnt K wr) {S : Nat → Prop} (hc : Chg S wr w') (hS : ∀ b, S b → b < wr.heap.size → b = M ∨ (w0.heap.size ≤ b ∧ b ≠ b4 ∧ b ≠ b6 ∧ b ≠ r ∧ b ≠ gc)) (hs : MapF spV spOk w' M (bs s')) :
    TpJ w0 M B b4 b6 p g W H r gc cc L c pf s' left cnt K w' := by
  have a1 := h.hp; have a2 := h.hg; have a3 := h.hB; have a4 := h.hM; have a5 := h.h4; have a6 := h.h6; have a7 := h.hr
  obtain ⟨n1, n2, n3, n4, n5, n6⟩ := h.ne
  have z := h.chg.size
  have pM := map_ne h.seen h.img.hdr
  have gM := map_ne h.seen h.img.bits
  have gl := h.row.lt gc rfl
  have K' : ∀ b, b < wr.heap.size → b ≠ M → (b < w0.heap.size ∨ b = b4 ∨ b = b6 ∨ b = r ∨ b = gc) → ¬ S b := fun b hb h1 h2 h3 => by
    have := hS b h3 hb; omega
  refine ⟨⟨hc.blk h.img.hdr (K' p h.img.hdr.lt pM (by omega)), hc.blk h.img.bits (K' g h.img.bits.lt gM (by omega)), h.img.len⟩, hc.blk h.bx4 (K' b4 h.bx4.lt (by omega) (by omega)), hc.blk h.bx6 (K' b6 h.bx6.lt (by omega) (by omega)), hs,
    h.rng.chgM hc (K' B h.rng.map.lt n1 (by omega)) (K' r h.rng.lt (by omega) (by omega)), hc.own h.row (fun q hq => ?_), ?_, a1, a2, a3, a4, a5, a6, a7, h.ne⟩
  · have : q = gc := by simpa [Value.ownBlock] using hq.symm
    subst this
    exact K' q gl.2 (by omega) (by omega)
  · refine ⟨hc.os.trans h.chg.os, hc.tape.trans h.chg.tape, hc.output.trans h.chg.output, Nat.le_trans z hc.size, fun k hk hn => ?_⟩
    refine (hc.block k (by omega) (fun h3 => ?_)).trans (h.chg.block k hk hn)
    have := hS k h3 (by omega)
    omega
theorem TpJ.step (h : TpJ w0 M B b4 b6 p g W H r gc cc L c pf s left cnt K wr) (hb : Below wr.heap.size wr w') : TpJ w0 M B b4 b6 p g W H r gc cc L c pf s left cnt K w' :=
  h.move (Chg.of_below hb) (fun _ h1 h2 => by omega) (h.seen.ext hb)
/-- A pixel is seen. -/
theorem TpJ.put (h : TpJ w0 M B b4 b6 p g W H r gc cc L c pf s left cnt K wr) (hg : wr.grownBy w' (some M)) (hs : MapF spV spOk w' M (bs s')) : TpJ w0 M B b4 b6 p g W H r gc cc L c pf s' left cnt K w' :=
  h.move (Chg.of_rowT hg) (fun _ h1 _ => .inl (Option.some.inj h1).symm) hs
/-- Another range goes on. -/
theorem TpJ.iter (h : TpJ w0 M B b4 b6 p g W H r gc cc L c pf s left cnt K wr) {q : Nat} (hg : wr.grownBy w' (some q)) (hq : w0.heap.size ≤ q ∧ q ≠ b4 ∧ q ≠ b6 ∧ q ≠ r ∧ q ≠ gc) : TpJ w0 M B b4 b6 p g W H r gc cc L c pf s left cnt K w' :=
  h.move (Chg.of_rowT hg) (fun b h1 _ => .inr (by obtain rfl := Option.some.inj h1; exact hq)) (h.seen.of_block (hg.block M h.seen.lt (by have := h.hM; simp; omega)))
/-- The range of the part goes on. -/
theorem TpJ.next (h : TpJ w0 M B b4 b6 p g W H r gc cc L c pf s left cnt K wr) (hg : wr.grownBy w' (some r)) (hr : RngF spV spOk w' B r (bs pf) left' cnt') : TpJ w0 M B b4 b6 p g W H r gc cc L c pf s left' cnt' K w' := by
  have a1 := h.hp; have a2 := h.hg; have a3 := h.hB; have a4 := h.hM; have a5 := h.h4; have a6 := h.h6; have a7 := h.hr
  obtain ⟨n1, n2, n3, n4, n5, n6⟩ := h.ne
  have hc : Chg (fun b => some r = some b) wr w' := Chg.of_rowT hg
  refine ⟨⟨hc.blk h.img.hdr (by simp; omega), hc.blk h.img.bits (by simp; omega), h.img.len⟩, hc.blk h.bx4 (by simp; omega), hc.blk h.bx6 (by simp; omega), h.seen.chgM hc (by simp; omega), hr, hc.own h.row (fun q hq => ?_), ?_, a1, a2, a3, a4, a5, a6, a7, h.ne⟩
  · have : q = gc := by simpa [Value.ownBlock] using hq.symm
    subst this
    simp; omega
  · have z := h.chg.size
    refine ⟨hc.os.trans h.chg.os, hc.tape.trans h.chg.tape, hc.output.trans h.chg.output, Nat.le_trans z hc.size, fun k hk hn => ?_⟩
    exact (hc.block k (by omega) (by simp; omega)).trans (h.chg.block k hk hn)
/-- A code more. -/
theorem TpJ.app (h : TpJ w0 M B b4 b6 p g W H r gc cc L c pf s left cnt K wr) {o : Obj} {e : Kid} {gc' cc' : Nat} (hg : (wr.alloc o).grownBy w' (some gc)) (hrow : w'.ownsRow w0.heap.size 9 1 (.slice (some ⟨gc', 0, none⟩) (K.length + 1) cc') (K.length + 1) (kcV K ++ [.string ⟨e.2.1.toArray⟩])) (hat : some gc = some gc' ∨ gc' = (wr.alloc o).heap.size) :
    TpJ w0 M B b4 b6 p g W H r gc' cc' L c pf s left cnt (K ++ [e]) w' := by
  have I := h.step (Ext.more (Ext.refl wr) o)
  have a1 := I.hp; have a2 := I.hg; have a3 := I.hB; have a4 := I.hM; have a5 := I.h4; have a6 := I.h6; have a7 := I.hr
  obtain ⟨n1, n2, n3, n4, n5, n6⟩ := I.ne
  have gl := I.row.lt gc rfl
  have hc : Chg (fun b => some gc = some b) (wr.alloc o) w' := Chg.of_rowT hg
  have x4 := I.bx4.lt; have x6 := I.bx6.lt; have xr := I.rng.lt
  refine ⟨⟨hc.blk I.img.hdr (by simp; omega), hc.blk I.img.bits (by simp; omega), I.img.len⟩, hc.blk I.bx4 (by simp; omega), hc.blk I.bx6 (by simp; omega), I.seen.chgM hc (by simp; omega), I.rng.chgM hc (by simp; omega) (by simp; omega), by simpa [kcV] using hrow, ?_, a1, a2, a3, a4, a5, a6, a7, ?_⟩
  · have z := I.chg.size
    refine ⟨hc.os.trans I.chg.os, hc.tape.trans I.chg.tape, hc.output.trans I.chg.output, Nat.le_trans z hc.size, fun k hk hn => ?_⟩
    exact (hc.block k (by omega) (by simp; omega)).trans (I.chg.block k hk hn)
  · rcases hat with e | e
    · obtain rfl := Option.some.inj e
      exact I.ne
    · exact ⟨n1, n2, n3, by omega, by omega, by omega⟩
end
theorem kcV_snoc (K : List Kid) (e : Kid) : kcV (K ++ [e]) = kcV K ++ [.string ⟨e.2.1.toArray⟩] := by simp [kcV]
theorem kcV_enc (K : List Kid) : kcV K = (K.map fun e => e.2.1).map encStr := by
  simp [kcV, encStr, Function.comp_def]
open Go.Sort in
theorem sortT_any {base g cap n : Nat} {L : List Txt} (w : World) (h : w.ownsRow base 9 1 (.slice (some ⟨g, 0, none⟩) n cap) n (L.map encStr)) (hn : L.length = n) (hb : n ≤ 1000000000) :
    Calls Try.prog 88 #[.slice (some ⟨g, 0, none⟩) n cap] w fun e w' => e = .returned (.tuple #[]) ∧ w'.ownsRow base 9 1 (.slice (some ⟨g, 0, none⟩) n cap) n ((srtC L).map encStr) ∧ w.grownBy w' (some g) := by
  obtain ⟨h1, h2⟩ := own_holds (enc := encStr) h hn
  have C := Try.slices_Sort_string g 0 cap L w h1 h2 (by omega)
  rw [hn] at C
  refine C.mono ?_
  rintro e w' ⟨rfl, m, os, rfl⟩
  exact ⟨rfl, own_put h (by rw [List.length_mergeSort, hn]), grown_put _⟩
open Go.Sort in
theorem joinT_any {base g cap n : Nat} {L : List Txt} (w : World) (h : w.ownsRow base 9 1 (.slice (some ⟨g, 0, none⟩) n cap) n (L.map encStr)) (hn : L.length = n) (hb : n ≤ 1000000) (hc : n ≤ cap) (hl : L.flatten.length ≤ 1000000) :
    Calls Try.prog 89 #[.slice (some ⟨g, 0, none⟩) n cap, .string ⟨#[]⟩] w fun e w' => e = .returned (.string ⟨L.flatten.toArray⟩) ∧ Below w.heap.size w w' := by
  have e0 : (L.map fun l => (⟨l.toArray⟩ : ByteArray)).map (·.data.toList) = L := by simp [Function.comp_def]
  have e1 : Lib.join L ([] : Txt) = L.flatten := by
    cases L with
    | nil => rfl
    | cons a l => rw [Lib.join_cons]; simp [Lib.joinTail]
  have C := Try.strings_Join g 0 cap (L.map fun l => (⟨l.toArray⟩ : ByteArray)) ⟨#[]⟩ w (fun j x hj => by
    rw [List.getElem?_map] at hj
    cases hLj : L[j]? with
    | none => rw [hLj] at hj; cases hj
    | some l =>
      rw [hLj] at hj
      cases hj
      have hjl : j < L.length := by
        by_cases hlt : j < L.length
        · exact hlt
        · rw [List.getElem?_eq_none (by omega)] at hLj; cases hLj
      rw [Nat.zero_add, h.cellAt j (by omega), List.getElem?_map, hLj]
      rfl) (h.lt g rfl).2 (by rw [List.length_map, hn]; omega) (by rw [List.length_map, hn]; exact hc) (by
    rw [e0]
    show (Lib.join L ([] : Txt)).length ≤ _
    rw [e1]; omega)
  rw [e0, List.length_map, hn] at C
  refine C.mono ?_
  rintro e w' ⟨h1, h2⟩
  refine ⟨?_, h2⟩
  rw [h1]
  show Ending.returned (.string ⟨(Lib.join L ([] : Txt)).toArray⟩) = _
  rw [e1]
end Go.Proofs.Ytdhajndmebnknaa
