/- Words on memory: a block known whole; lists of spots and of numbers as cells. Equality, marks and held marks of lists of numbers that lie in memory of the law's own. -/
import Derived.Test.YtkamkjbllmgifaaBase
import Derived.Deep.AppendLies
namespace Go.Proofs.Ytkamkjbllmgifaa
open Go.RowKit

/-- Block g is just the cells cs, of element type t, none frozen. -/
def Blk (w : World) (g : Nat) (t : TypeId) (cs : Array Value) : Prop := w.heap[g]? = some (.cells cs t (0, 0))

section
variable {w w' : World} {g : Nat} {t : TypeId} {cs : Array Value}
theorem Blk.lt (h : Blk w g t cs) : g < w.heap.size := by
  by_cases hlt : g < w.heap.size
  · exact hlt
  · have e : w.heap[g]? = none := Array.getElem?_eq_none (by omega)
    rw [Blk, e] at h; cases h
theorem Blk.cell (h : Blk w g t cs) (i : Nat) : w.cell? ⟨g, i, none⟩ = cs[i]? := by
  have h' : w.heap[g]? = some (.cells cs t (0, 0)) := h
  simp [World.cell?, h']
theorem Blk.free (h : Blk w g t cs) (i : Nat) : w.frozen? ⟨g, i, none⟩ = false := by
  have h' : w.heap[g]? = some (.cells cs t (0, 0)) := h
  simp [World.frozen?, h']
theorem Blk.made (w : World) (t : TypeId) (cs : Array Value) : Blk (w.alloc (.cells cs t)) w.heap.size t cs := heap_alloc_new w _
theorem Blk.ofDraw (h : Blk w g t cs) : Blk w.drew g t cs := h
theorem Blk.more (h : Blk w g t cs) (o : Obj) : Blk (w.alloc o) g t cs := (Below.heap_alloc w o g h.lt).trans h
theorem Blk.store (h : Blk w g t cs) (i : Nat) (u : Value) : Blk (w.setCell ⟨g, i, none⟩ u) g t (cs.setIfInBounds i u) := by
  have h' : w.heap[g]? = some (.cells cs t (0, 0)) := h
  simp [Blk, World.setCell, Array.getElem?_modify, h']
theorem Blk.apart (h : Blk w g t cs) {p : Addr} (hp : g ≠ p.block) (u : Value) : Blk (w.setCell p u) g t cs := (Below.heap_setCell w p u g hp).trans h
theorem Blk.under {B : Nat} (h : Blk w g t cs) (hb : Below B w w') (hg : g < B) : Blk w' g t cs := (hb.block g hg).trans h
theorem Blk.by_grown {row : Option Nat} (h : Blk w g t cs) (hb : w.grownBy w' row) (hg : some g ≠ row) : Blk w' g t cs := (hb.block g h.lt hg).trans h
end

theorem Blk.ne {w : World} {g g' : Nat} {t t' : TypeId} {cs cs' : Array Value} (h : Blk w g t cs) (h' : Blk w g' t' cs') (hne : t ≠ t') : g ≠ g' := by
  rintro rfl
  rw [Blk] at h h'
  rw [h] at h'
  injection h' with h'
  injection h' with _ ht
  exact hne ht
theorem drewN_alloc (w : World) (n : Nat) (o : Obj) : (w.drewN n).alloc o = (w.alloc o).drewN n := rfl
theorem drew_alloc (w : World) (o : Obj) : w.drew.alloc o = (w.alloc o).drew := rfl
theorem cell_drewN {w : World} {n : Nat} {a : Addr} {r : Option Value} (h : w.cell? a = r) : (w.drewN n).cell? a = r := h
theorem cell_drew {w : World} {a : Addr} {r : Option Value} (h : w.cell? a = r) : w.drew.cell? a = r := h
theorem cell_more {w : World} {o : Obj} {b i : Nat} {r : Option Value} (hb : b < w.heap.size) (h : w.cell? ⟨b, i, none⟩ = r) : (w.alloc o).cell? ⟨b, i, none⟩ = r := (World.cell?_alloc_lt w o ⟨b, i, none⟩ hb).trans h
theorem cell_new (w : World) (c : Array Value) (t : TypeId) (i : Nat) : (w.alloc (.cells c t)).cell? ⟨w.heap.size, i, none⟩ = c[i]? := World.cell?_alloc_new w c t i
theorem cell_other {w : World} {g i m j : Nat} {u : Value} {r : Option Value} (h : g ≠ m) (hc : w.cell? ⟨m, j, none⟩ = r) : (w.setCell ⟨g, i, none⟩ u).cell? ⟨m, j, none⟩ = r :=
  (World.cell?_setCell_other w _ _ _ (fun e => h (by injection e))).trans hc
/-- Behind a call that makes memory: old cells and old marks read as before. -/
theorem bcell {W w1 : World} (hb : Below W.heap.size W w1) : (∀ b o, b < W.heap.size → w1.cell? ⟨b, o, none⟩ = W.cell? ⟨b, o, none⟩) ∧ (∀ b o, b < W.heap.size → w1.frozen? ⟨b, o, none⟩ = W.frozen? ⟨b, o, none⟩) :=
  ⟨fun b o h => hb.cell (p := ⟨b, o, none⟩) h, fun b o h => hb.frozen (p := ⟨b, o, none⟩) h⟩

theorem Ext.then_ {a b c : World} (h : Below a.heap.size a b) (k : Below b.heap.size b c) : Below a.heap.size a c := h.trans (k.mono h.size)
theorem Ext.more {a b : World} (h : Below a.heap.size a b) (o : Obj) : Below a.heap.size a (b.alloc o) := h.alloc h.size o
theorem Ext.draw {a b : World} (h : Below a.heap.size a b) : Below a.heap.size a b.drew := h.drew
theorem Ext.drawN {a b : World} (h : Below a.heap.size a b) (n : Nat) : Below a.heap.size a (b.drewN n) := ⟨h.os, h.tape, h.output, h.size, h.block⟩
theorem Ext.undraw {B : Nat} {a b : World} (h : Below B a.drew b) : Below B a b := ⟨h.os, h.tape, h.output, h.size, h.block⟩
theorem Ext.undrawN {B : Nat} {a b : World} {n : Nat} (h : Below B (a.drewN n) b) : Below B a b := ⟨h.os, h.tape, h.output, h.size, h.block⟩
theorem Ext.refl (a : World) : Below a.heap.size a a := Below.refl _ _

/-- Spots as cells. -/
def spL : List (Int × Int) → List Value
  | [] => []
  | p :: r => .int .i64 p.1 :: .int .i64 p.2 :: spL r
def spC (L : List (Int × Int)) : Array Value := (spL L).toArray
theorem spL_length (L : List (Int × Int)) : (spL L).length = 2 * L.length := by
  induction L with
  | nil => rfl
  | cons p r ih => simp [spL, ih]; omega
theorem spL_fst (L : List (Int × Int)) : ∀ i, (spL L)[i * 2]? = (L[i]?).map fun p => Value.int .i64 p.1 := by
  induction L with
  | nil => intro i; simp [spL]
  | cons p r ih =>
    intro i
    cases i with
    | zero => rfl
    | succ i => rw [show (i + 1) * 2 = i * 2 + 1 + 1 from by omega]; simpa [spL] using ih i
theorem spL_snd (L : List (Int × Int)) : ∀ i, (spL L)[i * 2 + 1]? = (L[i]?).map fun p => Value.int .i64 p.2 := by
  induction L with
  | nil => intro i; simp [spL]
  | cons p r ih =>
    intro i
    cases i with
    | zero => rfl
    | succ i => rw [show (i + 1) * 2 + 1 = i * 2 + 1 + 1 + 1 from by omega]; simpa [spL] using ih i
theorem spL_set (L : List (Int × Int)) (q : Int × Int) : ∀ i, ((spL L).set (i * 2) (.int .i64 q.1)).set (i * 2 + 1) (.int .i64 q.2) = spL (L.set i q) := by
  induction L with
  | nil => intro i; simp [spL]
  | cons p r ih =>
    intro i
    cases i with
    | zero => rfl
    | succ i =>
      rw [show (i + 1) * 2 = i * 2 + 1 + 1 from by omega, show i * 2 + 1 + 1 + 1 = (i * 2 + 1) + 1 + 1 from by omega]
      simpa [spL] using ih i
theorem spL_append (L M : List (Int × Int)) : spL (L ++ M) = spL L ++ spL M := by
  induction L with
  | nil => rfl
  | cons p r ih => simp [spL, ih]
theorem spC_size (L : List (Int × Int)) : (spC L).size = 2 * L.length := by simp [spC, spL_length]
theorem spC_fst (L : List (Int × Int)) (i : Nat) (h : i < L.length) : (spC L)[i * 2]? = some (.int .i64 (L[i]).1) := by
  simp [spC, spL_fst, h]
theorem spC_snd (L : List (Int × Int)) (i : Nat) (h : i < L.length) : (spC L)[i * 2 + 1]? = some (.int .i64 (L[i]).2) := by
  simp [spC, spL_snd, h]
theorem spC_ex (L : List (Int × Int)) (n i : Nat) (hl : L.length = n) (h : i < n) : (∃ u, (spC L)[i * 2]? = some u) ∧ ∃ u, (spC L)[i * 2 + 1]? = some u := by
  subst hl; exact ⟨⟨_, spC_fst L i h⟩, ⟨_, spC_snd L i h⟩⟩
theorem spC_set (L : List (Int × Int)) (q : Int × Int) (i : Nat) : ((spC L).setIfInBounds (i * 2) (.int .i64 q.1)).setIfInBounds (i * 2 + 1) (.int .i64 q.2) = spC (L.set i q) := by
  simp [spC, spL_set]
theorem spL_replicate (n : Nat) : spL (List.replicate n (0, 0)) = List.replicate (2 * n) (.int .i64 0) := by
  induction n with
  | zero => rfl
  | succ n ih =>
    rw [show 2 * (n + 1) = 2 * n + 1 + 1 from by omega]
    simp [List.replicate_succ, spL, ih]
theorem spC_made (n : Nat) : madeCells #[Value.int .i64 0, Value.int .i64 0] (n * 2) = spC (List.replicate n (0, 0)) := by
  apply Array.ext'
  rw [spC, spL_replicate, List.toList_toArray]
  apply List.ext_getElem
  · simp [madeCells]; omega
  · intro i h1 h2
    have : i % 2 = 0 ∨ i % 2 = 1 := by omega
    rcases this with e | e <;> simp [madeCells, e]

theorem own_blk_ne {w : World} {g : Nat} {t : TypeId} {cs : Array Value} {base : Nat} {e : TypeId} {size n : Nat} {v : Value} {xs : List Value} (h : w.ownsRow base e size v n xs) (hg : Blk w g t cs) (hne : e ≠ t) : v.ownBlock ≠ some g := by
  rcases h.2 with ⟨rfl, _⟩ | ⟨g', cap, cur, rfl, _, hh, _⟩
  · simp [Value.ownBlock]
  · intro he
    have : g' = g := by simpa [Value.ownBlock] using he
    subst this
    exact Blk.ne (t := e) hh hg hne rfl
theorem own_base {w : World} {base base' : Nat} {e : TypeId} {size : Nat} {v : Value} {n : Nat} {xs : List Value} (h : w.ownsRow base e size v n xs) (hb : base' ≤ base) : w.ownsRow base' e size v n xs := by
  refine ⟨h.1, ?_⟩
  rcases h.2 with h | ⟨g, cap, cur, hv, hg, hr⟩
  · exact .inl h
  · exact .inr ⟨g, cap, cur, hv, by omega, hr⟩
theorem own_ext {w w' : World} (hb : Below w.heap.size w w') {base : Nat} {e : TypeId} {size : Nat} {v : Value} {n : Nat} {xs : List Value} (h : w.ownsRow base e size v n xs) : w'.ownsRow base e size v n xs := by
  refine ⟨h.1, ?_⟩
  rcases h.2 with h | ⟨g, cap, cur, hv, hg, hh, hr⟩
  · exact .inl h
  · refine .inr ⟨g, cap, cur, hv, hg, (hb.block g ?_).trans hh, hr⟩
    by_cases hlt : g < w.heap.size
    · exact hlt
    · rw [Array.getElem?_eq_none (by omega)] at hh; cases hh
def ints (L : List Int) : List Value := L.map (Value.int .i64)
/-- Block g has spots from its first cell on. -/
def SpAt (w : World) (g : Nat) (L : List (Int × Int)) : Prop :=
  g < w.heap.size ∧ ∀ i (h : i < L.length), w.cell? ⟨g, i * 2, none⟩ = some (.int .i64 (L[i]).1) ∧ w.cell? ⟨g, i * 2 + 1, none⟩ = some (.int .i64 (L[i]).2)
/-- Block g has int64s from its first cell on. -/
def IntAt (w : World) (g : Nat) (L : List Int) : Prop :=
  g < w.heap.size ∧ ∀ i (h : i < L.length), w.cell? ⟨g, i, none⟩ = some (.int .i64 L[i])
theorem Blk.spots {w : World} {g : Nat} {t : TypeId} {L : List (Int × Int)} (h : Blk w g t (spC L)) : SpAt w g L :=
  ⟨h.lt, fun i hi => ⟨(h.cell _).trans (spC_fst L i hi), (h.cell _).trans (spC_snd L i hi)⟩⟩
theorem SpAt.ext {w w' : World} {g : Nat} {L : List (Int × Int)} (h : SpAt w g L) (hb : Below w.heap.size w w') : SpAt w' g L :=
  ⟨Nat.lt_of_lt_of_le h.1 hb.size, fun i hi => ⟨(hb.cell (p := ⟨g, _, none⟩) h.1).trans (h.2 i hi).1, (hb.cell (p := ⟨g, _, none⟩) h.1).trans (h.2 i hi).2⟩⟩
theorem IntAt.ext {w w' : World} {g : Nat} {L : List Int} (h : IntAt w g L) (hb : Below w.heap.size w w') : IntAt w' g L :=
  ⟨Nat.lt_of_lt_of_le h.1 hb.size, fun i hi => (hb.cell (p := ⟨g, _, none⟩) h.1).trans (h.2 i hi)⟩

/-- A slice type T of elements e: the zero, the cells, the bytes. -/
structure ElemT (T e : TypeId) (z : Value) (size bytes : Nat) : Prop where
  under : Try.prog.underlying T = some (.slice e)
  info : (Try.prog.info? e).map (fun i => (i.zero, i.size, i.bytes)) = some (some z, size, bytes)
  cells : z.cells.size = size
  pos : 0 < size
  small : bytes ≤ 64
theorem intT : ElemT 34 2 (.int .i64 0) 1 8 := ⟨Try.underlying34, by kernel_rfl, rfl, by decide, by decide⟩
theorem spotT : ElemT 66 39 (.agg #[.int .i64 0, .int .i64 0]) 2 16 := ⟨Try.underlying66, by kernel_rfl, rfl, by decide, by decide⟩

section
variable {T e : TypeId} {z : Value} {size bytes : Nat}
/-- append of one element, at a plain list of operations. -/
theorem wpList_app (E : ElemT T e z size bytes) {w : World} {ops : Array Oper} {rest : List Oper} {o : Oper} {a : Act} {Q : Exit → Act → World → Prop} (hgd : o.guard = none) (s x : Operand)
    (ho : o.op = .call { callee := .builtin .append, args := #[s, x], argTypes := #[T, T] })
    (base : Nat) (v : Value) (n : Nat) (xs : List Value) (hs : a.eval s = v) (hown : w.ownsRow base e size v n xs)
    (B : Nat) (cs : Array Value) (hx : a.eval x = .slice (some ⟨B, 0, none⟩) 1 1) (hb : w.heap[B]? = some (.cells cs e (0, 0))) (hcs : cs.size = size) (h1 : ∀ u ∈ cs.toList, u.oneCell' = true)
    (hn : n ≤ 1000000000) (hbase : base ≤ w.heap.size)
    (h : ∀ g cap w', w'.ownsRow base e size (.slice (some ⟨g, 0, none⟩) (n + 1) cap) (n + 1) (xs ++ cs.toList) → w.grownBy w' v.ownBlock → (v.ownBlock = some g ∨ g = w.heap.size) → g < w'.heap.size → wpList Try.prog ops Q rest (a.put o.dst (.slice (some ⟨g, 0, none⟩) (n + 1) cap)) w') : wpList Try.prog ops Q (o :: rest) a w := by
  obtain ⟨i0, hi, hz0, hz1, hz2⟩ := info_parts E.info
  have hsm := E.small
  refine wpList_append_lies w hgd s x T ho base e i0 z size bytes E.under hi hz0 hz1 hz2 E.cells E.pos v n xs hs hown ⟨B, 0, none⟩ 1 1 cs.toList hx (by simp [hcs]) (World.news_of_block hb) h1 (by decide) (by unfold maxLen; omega) ?_ hbase _ rfl h
  have : (n + 1) * bytes ≤ 1000000001 * 64 := Nat.mul_le_mul (by omega) hsm
  omega
/-- append of one element, at a region that draws its order. -/
theorem step_app (E : ElemT T e z size bytes) {w : World} {ops : Array Oper} {o : Oper} {a : Act} {K : Act → World → Prop} {Q : Exit → Act → World → Prop} {F : Prop} (hgd : o.guard = none) (s x : Operand)
    (ho : o.op = .call { callee := .builtin .append, args := #[s, x], argTypes := #[T, T] })
    (base : Nat) (v : Value) (n : Nat) (xs : List Value) (hs : a.eval s = v) (hown : w.ownsRow base e size v n xs)
    (B : Nat) (cs : Array Value) (hx : a.eval x = .slice (some ⟨B, 0, none⟩) 1 1) (hb : w.heap[B]? = some (.cells cs e (0, 0))) (hcs : cs.size = size) (h1 : ∀ u ∈ cs.toList, u.oneCell' = true)
    (hn : n ≤ 1000000000) (hbase : base ≤ w.heap.size)
    (h : ∀ g cap w', w'.ownsRow base e size (.slice (some ⟨g, 0, none⟩) (n + 1) cap) (n + 1) (xs ++ cs.toList) → w.grownBy w' v.ownBlock → (v.ownBlock = some g ∨ g = w.heap.size) → g < w'.heap.size → K (a.put o.dst (.slice (some ⟨g, 0, none⟩) (n + 1) cap)) w') :
    if Region.wanted o (yielded ops a.tmps) = true then Oper.wp Try.prog o a w K Q else F := by
  obtain ⟨i0, hi, hz0, hz1, hz2⟩ := info_parts E.info
  have hsm := E.small
  refine step_append_lies w hgd s x T ho base e i0 z size bytes E.under hi hz0 hz1 hz2 E.cells E.pos v n xs hs hown ⟨B, 0, none⟩ 1 1 cs.toList hx (by simp [hcs]) (World.news_of_block hb) h1 (by decide) (by unfold maxLen; omega) ?_ hbase _ rfl h
  have : (n + 1) * bytes ≤ 1000000001 * 64 := Nat.mul_le_mul (by omega) hsm
  omega
end

end Go.Proofs.Ytkamkjbllmgifaa

namespace Go.Proofs.Ytkamkjbllmgifaa
open Go.RowKit

/-- Only blocks in S, and new ones, have turned. -/
structure Chg (S : Nat → Prop) (w w' : World) : Prop where
  os : w'.os = w.os
  tape : w'.tape = w.tape
  output : w'.output = w.output
  size : w.heap.size ≤ w'.heap.size
  block : ∀ k, k < w.heap.size → ¬ S k → w'.heap[k]? = w.heap[k]?
theorem Chg.refl (S : Nat → Prop) (w : World) : Chg S w w := ⟨rfl, rfl, rfl, Nat.le_refl _, fun _ _ _ => rfl⟩
theorem Chg.trans {S : Nat → Prop} {a b c : World} (h : Chg S a b) (k : Chg S b c) : Chg S a c :=
  ⟨k.os.trans h.os, k.tape.trans h.tape, k.output.trans h.output, Nat.le_trans h.size k.size, fun j hj hs => (k.block j (Nat.lt_of_lt_of_le hj h.size) hs).trans (h.block j hj hs)⟩
theorem Chg.mono {S T : Nat → Prop} {a b : World} (h : Chg S a b) (hs : ∀ k, S k → T k) : Chg T a b :=
  ⟨h.os, h.tape, h.output, h.size, fun j hj ht => h.block j hj (fun h' => ht (hs j h'))⟩
theorem Chg.below {S : Nat → Prop} {a b : World} {B : Nat} (h : Chg S a b) (hs : ∀ k, S k → B ≤ k) (hB : B ≤ a.heap.size) : Below B a b :=
  ⟨h.os, h.tape, h.output, h.size, fun j hj => h.block j (by omega) (fun h' => by have := hs j h'; omega)⟩
theorem Chg.of_below {a b : World} {B : Nat} (h : Below B a b) : Chg (fun k => B ≤ k) a b :=
  ⟨h.os, h.tape, h.output, h.size, fun j _ hj => h.block j (by omega)⟩
theorem Chg.drewN {S : Nat → Prop} {a b : World} (h : Chg S a b) (n : Nat) : Chg S a (b.drewN n) := ⟨h.os, h.tape, h.output, h.size, h.block⟩
theorem Chg.store {S : Nat → Prop} {a b : World} (h : Chg S a b) {p : Addr} (hp : S p.block) (u : Value) : Chg S a (b.setCell p u) :=
  ⟨h.os, h.tape, h.output, by simpa [World.setCell] using h.size, fun j hj hs => (Below.heap_setCell b p u j (fun e => hs (by rw [e]; exact hp))).trans (h.block j hj hs)⟩
theorem Chg.cell {S : Nat → Prop} {w w' : World} (h : Chg S w w') {p : Addr} (hp : p.block < w.heap.size) (hs : ¬ S p.block) : w'.cell? p = w.cell? p := World.cell?_of_block (w := w) (h.block p.block hp hs)
theorem Chg.own {S : Nat → Prop} {w w' : World} (hb : Chg S w w') {base : Nat} {e : TypeId} {size : Nat} {v : Value} {n : Nat} {xs : List Value} (h : w.ownsRow base e size v n xs) (hs : ∀ g, v.ownBlock = some g → ¬ S g) : w'.ownsRow base e size v n xs := by
  refine ⟨h.1, ?_⟩
  rcases h.2 with h | ⟨g, cap, cur, hv, hg, hh, hr⟩
  · exact .inl h
  · refine .inr ⟨g, cap, cur, hv, hg, (hb.block g ?_ (hs g (by rw [hv]; rfl))).trans hh, hr⟩
    by_cases hlt : g < w.heap.size
    · exact hlt
    · rw [Array.getElem?_eq_none (by omega)] at hh; cases hh

/-- A slice value's address reads as a list of one-cell values, in memory that a call made. -/
def Rd (w : World) (A : Option Addr) (xs : List Value) : Prop :=
  0 < xs.length → ∃ g, A = some ⟨g, 0, none⟩ ∧ g < w.heap.size ∧ ∀ i (h : i < xs.length), w.cell? ⟨g, i, none⟩ = some xs[i]
theorem Rd.of_own {w : World} {base : Nat} {e : TypeId} {A : Option Addr} {n c : Nat} {xs : List Value} (h : w.ownsRow base e 1 (.slice A n c) n xs) : Rd w A xs := by
  intro hn
  have hl : xs.length = n := by have := h.1; omega
  rcases h.2 with ⟨_, h0⟩ | ⟨g, cap, cur, hv, _⟩
  · omega
  · simp only [Value.slice.injEq] at hv
    obtain ⟨rfl, _, rfl⟩ := hv
    exact ⟨g, rfl, (h.lt g rfl).2, fun i hi => by rw [h.cellAt i (by omega)]; simp [hi]⟩
theorem Rd.ext {w w' : World} {A : Option Addr} {xs : List Value} (h : Rd w A xs) (hb : Below w.heap.size w w') : Rd w' A xs := by
  intro hn
  obtain ⟨g, e, hg, hc⟩ := h hn
  exact ⟨g, e, Nat.lt_of_lt_of_le hg hb.size, fun i hi => (hb.cell (p := ⟨g, _, none⟩) hg).trans (hc i hi)⟩
theorem Rd.drewN {w : World} {A : Option Addr} {xs : List Value} (h : Rd w A xs) (k : Nat) : Rd (w.drewN k) A xs := h

/-- The marks k, k + 1, .. -/
def marks (k n : Nat) : List Int := (List.range n).map fun i => ((k + i : Nat) : Int)
theorem marks_length (k n : Nat) : (marks k n).length = n := by simp [marks]
theorem marks_succ (k n : Nat) : marks k (n + 1) = marks k n ++ [((k + n : Nat) : Int)] := by simp [marks, List.range_succ]

set_option maxHeartbeats 400000 in
theorem eqInts_any (A B : Option Addr) (c d : Nat) (L : List Int) (w : World) (hA : Rd w A (ints L)) (hB : Rd w B (ints L)) (hn : L.length ≤ 1000000000) :
    Calls Try.prog 58 #[.slice A L.length c, .slice B L.length d] w fun e w' => e = .returned (.bool true) ∧ ∃ k, w' = w.drewN k := by
  obtain ⟨n, hnL⟩ : ∃ n, L.length = n := ⟨_, rfl⟩
  have t0 : ((n : Int) != n) = false := by simp
  have hl : (ints L).length = n := by simp [ints, hnL]
  rw [hnL] at hn ⊢
  go_enter Try.func58, Try.ntmps58
  go_wp2_with fail
  go_loopw [5] (fun i wr => ∃ k j : Nat, k ≤ n ∧ i = .int .i64 k ∧ wr = w.drewN j) (fun i _ => n - (intOf i).toNat)
  case atStart => exact ⟨0, 0, Nat.zero_le _, rfl, rfl⟩
  case round =>
    obtain ⟨k, j, hk, rfl, rfl⟩ := hrel
    by_cases hlt : k < n
    · obtain ⟨g, rfl, hg, hcA⟩ := hA (by omega)
      obtain ⟨g', rfl, hg', hcB⟩ := hB (by omega)
      have c1 := hcA k (by omega)
      have c2 := hcB k (by omega)
      have e1 : (ints L)[k] = .int .i64 L[k] := by simp [ints]
      rw [e1] at c1 c2
      clear e1 hcA hcB
      generalize L[k] = x at *
      have i0 : (0 : Int) ≤ (k : Int) := by omega
      have i1 : (k : Int) < (n : Int) := by omega
      have t1 : (x != x) = false := by simp
      go_wp2_with fail
      go_quiet (fail)
      go_wp2_with fail
      go_roundw
      case rel => exact ⟨k + 1, _, by omega, by go_num, rfl⟩
      case measure => simp [intOf]; omega
    · obtain rfl : k = n := by omega
      go_wp2_with fail
      go_ret
      exact ⟨rfl, j, rfl⟩

set_option maxHeartbeats 400000 in
theorem markInts_any (base : Nat) (A : Option Addr) (c : Nat) (L : List Int) (k0 : Nat) (w : World) (hA : w.ownsRow base 2 1 (.slice A L.length c) L.length (ints L)) (hn : L.length ≤ 1000000000) (hk0 : k0 ≤ 1000000000000) :
    Calls Try.prog 59 #[.slice A L.length c, .int .i64 k0] w fun e w' => e = .returned (.int .i64 ((k0 + L.length : Nat) : Int)) ∧
      w'.ownsRow base 2 1 (.slice A L.length c) L.length (ints (marks k0 L.length)) ∧ Chg (fun b => ∃ a, A = some a ∧ b = a.block) w w' := by
  obtain ⟨n, hnL⟩ : ∃ n, L.length = n := ⟨_, rfl⟩
  rw [hnL] at hA hn ⊢
  go_enter Try.func59, Try.ntmps59
  go_wp2_with fail
  go_loopw [1, 5] (fun v i wr => ∃ k : Nat, k ≤ n ∧ i = .int .i64 k ∧ v = .int .i64 ((k0 + k : Nat) : Int) ∧ wr.ownsRow base 2 1 (.slice A n c) n (ints (marks k0 k ++ L.drop k)) ∧ Chg (fun b => ∃ a, A = some a ∧ b = a.block) w wr) (fun _ i _ => n - (intOf i).toNat)
  case atStart => exact ⟨0, Nat.zero_le _, rfl, rfl, by simpa [marks] using hA, Chg.refl _ _⟩
  case round =>
    obtain ⟨k, hk, rfl, rfl, hown, hb⟩ := hrel
    by_cases hlt : k < n
    · rcases hown.2 with ⟨_, h0⟩ | ⟨g, cap, cur, hv, _⟩
      · omega
      · simp only [Value.slice.injEq] at hv
        obtain ⟨rfl, _, rfl⟩ := hv
        have c1 := hown.cellAt k (by omega)
        have f1 := hown.frozenAt k
        have hst := hown.stored k (.int .i64 ((k0 + k : Nat) : Int))
        have hl : (ints (marks k0 k ++ L.drop k)).length = n := by simp [ints, marks_length, hnL]; omega
        rw [List.getElem?_eq_getElem (by omega)] at c1
        generalize (ints (marks k0 k ++ L.drop k))[k] = u at c1
        have hset : (ints (marks k0 k ++ L.drop k)).set k (.int .i64 ((k0 + k : Nat) : Int)) = ints (marks k0 (k + 1) ++ L.drop (k + 1)) := by
          have hd : L.drop k = L[k] :: L.drop (k + 1) := List.drop_eq_getElem_cons (by omega)
          rw [marks_succ, hd]
          have hm : (List.map (Value.int .i64) (marks k0 k)).length = k := by simp [marks_length]
          simp only [ints, List.map_append, List.map_cons, List.append_assoc, List.cons_append, List.nil_append]
          rw [List.set_append_right _ _ (by omega), hm, Nat.sub_self, List.set_cons_zero]
        rw [hset] at hst
        have HST := Lib.hid hst
        have i0 : (0 : Int) ≤ (k : Int) := by omega
        have i1 : (k : Int) < (n : Int) := by omega
        clear hset hst hl hown
        go_wp2_with fail
        go_roundw
        case rel => exact ⟨k + 1, by omega, by go_num, by go_num, HST.out.1, hb.store (p := ⟨g, k, none⟩) ⟨_, rfl, rfl⟩ _⟩
        case measure => simp [intOf]; omega
    · obtain rfl : k = n := by omega
      go_wp2_with fail
      go_ret
      refine ⟨rfl, ?_, hb⟩
      simpa [List.drop_of_length_le (show L.length ≤ k by omega)] using hown

set_option maxHeartbeats 400000 in
theorem heldInts_any (A : Option Addr) (c n k0 : Nat) (w : World) (hA : Rd w A (ints (marks k0 n))) (hn : n ≤ 1000000000) (hk0 : k0 ≤ 1000000000000) :
    Calls Try.prog 60 #[.slice A n c, .int .i64 k0] w fun e w' => e = .returned (.int .i64 ((k0 + n : Nat) : Int)) ∧ w = w' := by
  have hl : (ints (marks k0 n)).length = n := by simp [ints, marks_length]
  go_enter Try.func60, Try.ntmps60
  go_wp2_with fail
  go_loop [1, 5] (fun v i => ∃ k : Nat, k ≤ n ∧ i = .int .i64 k ∧ v = .int .i64 ((k0 + k : Nat) : Int)) (fun _ i => n - (intOf i).toNat)
  case atStart => exact ⟨0, Nat.zero_le _, rfl, rfl⟩
  case round =>
    obtain ⟨k, hk, rfl, rfl⟩ := hrel
    by_cases hlt : k < n
    · obtain ⟨g, rfl, hg, hcA⟩ := hA (by omega)
      have c1 := hcA k (by omega)
      have e1 : (ints (marks k0 n))[k] = .int .i64 ((k0 + k : Nat) : Int) := by simp [ints, marks]
      rw [e1] at c1
      clear e1 hcA
      have i0 : (0 : Int) ≤ (k : Int) := by omega
      have i1 : (k : Int) < (n : Int) := by omega
      have t1 : (((k0 + k : Nat) : Int) != ((k0 + k : Nat) : Int)) = false := by simp
      go_wp2_with fail
      go_round
      case rel => exact ⟨k + 1, by omega, by go_num, by go_num⟩
      case measure => simp [intOf]; omega
    · obtain rfl : k = n := by omega
      go_wp2_with fail
      go_ret
      exact ⟨rfl, rfl⟩
end Go.Proofs.Ytkamkjbllmgifaa
