/- Matrices of numbers: equality, marks, held marks. Matrices of numbers that came in: their size, a copy of them. Matrices that came in: size and copy. Matrices that came in: the copy. The laws' own functions of grey pictures. A matrix that grows by a row. -/
import Derived.Test.YtdhajndmebnknaaGreatPicL
namespace Go.Proofs.YtdhajndmebnknaaGreat
open Go.RowKit

theorem rowT : ElemT 28 85 (.slice none 0 0) 1 24 := ⟨Tryz.underlying28, by kernel_rfl, rfl, by decide, by decide⟩
theorem own_own_ne {w : World} {b1 b2 : Nat} {e1 e2 : TypeId} {s1 s2 n1 n2 : Nat} {v1 v2 : Value} {x1 x2 : List Value} (h1 : w.ownsRow b1 e1 s1 v1 n1 x1) (h2 : w.ownsRow b2 e2 s2 v2 n2 x2) (hne : e1 ≠ e2) {g : Nat} (hg : v1.ownBlock = some g) : v2.ownBlock ≠ some g := by
  intro hg2
  rcases h1.2 with ⟨rfl, _⟩ | ⟨g1, cap1, cur1, rfl, _, hh1, _⟩
  · simp [Value.ownBlock] at hg
  · rcases h2.2 with ⟨rfl, _⟩ | ⟨g2, cap2, cur2, rfl, _, hh2, _⟩
    · simp [Value.ownBlock] at hg2
    · simp only [Value.ownBlock, Option.some.injEq] at hg hg2
      subst hg
      rw [hg2] at hh2
      rw [hh1] at hh2
      injection hh2 with hh2
      injection hh2 with _ ht
      exact hne ht

/-- A matrix that a slice value reads as. -/
def MatRd (w : World) (A : Option Addr) (rows : List (List Int)) : Prop :=
  0 < rows.length → ∃ g, A = some ⟨g, 0, none⟩ ∧ g < w.heap.size ∧ ∀ i (h : i < rows.length), ∃ Ai ci, w.cell? ⟨g, i, none⟩ = some (.slice Ai rows[i].length ci) ∧ Rd w Ai (ints rows[i])
theorem MatRd.ext {w w' : World} {A : Option Addr} {rows : List (List Int)} (h : MatRd w A rows) (hb : Below w.heap.size w w') : MatRd w' A rows := by
  intro hn
  obtain ⟨g, e, hg, hc⟩ := h hn
  refine ⟨g, e, Nat.lt_of_lt_of_le hg hb.size, fun i hi => ?_⟩
  obtain ⟨Ai, ci, h1, h2⟩ := hc i hi
  exact ⟨Ai, ci, (hb.cell (p := ⟨g, _, none⟩) hg).trans h1, h2.ext hb⟩
theorem MatRd.drewN {w : World} {A : Option Addr} {rows : List (List Int)} (h : MatRd w A rows) (k : Nat) : MatRd (w.drewN k) A rows := h

/-- A matrix in memory of the law's own, between lo and hi: the outer row's values vs, each row apart from the others. -/
structure MatAt (w : World) (lo hi : Nat) (A : Option Addr) (c : Nat) (vs : List Value) (rows : List (List Int)) : Prop where
  outer : w.ownsRow lo 85 1 (.slice A rows.length c) rows.length vs
  top : ∀ a, A = some a → a.block < hi
  row : ∀ i (h : i < rows.length), ∃ Ai ci, vs[i]? = some (.slice Ai rows[i].length ci) ∧ w.ownsRow lo 2 1 (.slice Ai rows[i].length ci) rows[i].length (ints rows[i]) ∧ ∀ a, Ai = some a → a.block < hi
  apart : ∀ (i j : Nat) (u v : Value) (g : Nat), i ≠ j → vs[i]? = some u → vs[j]? = some v → u.ownBlock = some g → v.ownBlock ≠ some g
theorem MatAt.rd {w : World} {lo hi : Nat} {A : Option Addr} {c : Nat} {vs : List Value} {rows : List (List Int)} (h : MatAt w lo hi A c vs rows) : MatRd w A rows := by
  intro hn
  rcases h.outer.2 with ⟨_, h0⟩ | ⟨g, cap, cur, hv, _⟩
  · omega
  · simp only [Value.slice.injEq] at hv
    obtain ⟨rfl, _, rfl⟩ := hv
    refine ⟨g, rfl, (h.outer.lt g rfl).2, fun i hi => ?_⟩
    obtain ⟨Ai, ci, h1, h2, _⟩ := h.row i hi
    exact ⟨Ai, ci, (h.outer.cellAt i (by omega)).trans h1, Rd.of_own h2⟩
theorem MatAt.ext {w w' : World} {lo hi : Nat} {A : Option Addr} {c : Nat} {vs : List Value} {rows : List (List Int)} (h : MatAt w lo hi A c vs rows) (hb : Below w.heap.size w w') : MatAt w' lo hi A c vs rows := by
  refine ⟨own_ext hb h.outer, h.top, fun i hi => ?_, h.apart⟩
  obtain ⟨Ai, ci, h1, h2, h3⟩ := h.row i hi
  exact ⟨Ai, ci, h1, own_ext hb h2, h3⟩
/-- Blocks outside have turned. -/
theorem MatAt.keep {w w' : World} {lo hi : Nat} {A : Option Addr} {c : Nat} {vs : List Value} {rows : List (List Int)} {S : Nat → Prop} (h : MatAt w lo hi A c vs rows) (hc : Chg S w w') (hS : ∀ b, lo ≤ b → b < hi → ¬ S b) : MatAt w' lo hi A c vs rows := by
  have one : ∀ {e : TypeId} {B : Option Addr} {n d : Nat} {xs : List Value}, w.ownsRow lo e 1 (.slice B n d) n xs → (∀ a, B = some a → a.block < hi) → w'.ownsRow lo e 1 (.slice B n d) n xs := by
    intro e B n d xs ho ht
    refine hc.own ho (fun g hg => ?_)
    cases B with
    | none => simp [Value.ownBlock] at hg
    | some a =>
      have hl := (ho.lt g hg).1
      simp [Value.ownBlock] at hg
      exact hS g hl (by rw [← hg]; exact ht a rfl)
  refine ⟨one h.outer h.top, h.top, fun i hi => ?_, h.apart⟩
  obtain ⟨Ai, ci, h1, h2, h3⟩ := h.row i hi
  exact ⟨Ai, ci, h1, one h2 h3, h3⟩
/-- A row has turned. -/
theorem MatAt.turn {w w' : World} {lo hi : Nat} {A : Option Addr} {c : Nat} {vs : List Value} {rows : List (List Int)} (h : MatAt w lo hi A c vs rows) {i : Nat} (hi' : i < rows.length) {Ai : Option Addr} {ci : Nat} (hv : vs[i]? = some (.slice Ai rows[i].length ci)) (ht : ∀ a, Ai = some a → a.block < hi)
    (r : List Int) (hr : r.length = rows[i].length) (ho : w'.ownsRow lo 2 1 (.slice Ai rows[i].length ci) rows[i].length (ints r)) (hc : Chg (fun b => ∃ a, Ai = some a ∧ b = a.block) w w') : MatAt w' lo hi A c vs (rows.set i r) := by
  obtain ⟨Ai', ci', hv', ho', _⟩ := h.row i hi'
  rw [hv] at hv'
  obtain ⟨rfl, rfl⟩ : Ai = Ai' ∧ ci = ci' := by simpa using hv'
  have hS : ∀ b, (∃ a, Ai = some a ∧ b = a.block) → (Value.slice Ai rows[i].length ci).ownBlock = some b := by
    rintro b ⟨a, rfl, rfl⟩; rfl
  refine ⟨?_, h.top, fun j hj => ?_, h.apart⟩
  · rw [List.length_set]
    exact hc.own h.outer (fun g hg hb => own_own_ne h.outer ho' (by decide) hg (hS g hb))
  · rw [List.length_set] at hj
    by_cases e : j = i
    · subst e
      refine ⟨Ai, ci, ?_, ?_, ht⟩
      · rw [List.getElem_set_self, hr]; exact hv
      · rw [List.getElem_set_self, hr]; exact ho
    · obtain ⟨Aj, cj, h1, h2, h3⟩ := h.row j hj
      refine ⟨Aj, cj, ?_, ?_, h3⟩
      · rw [List.getElem_set_ne (Ne.symm e)]; exact h1
      · rw [List.getElem_set_ne (Ne.symm e)]
        exact hc.own h2 (fun g hg hb => h.apart j i _ _ g e h1 hv hg (hS g hb))

/-- The numbers in the first k rows. -/
def tot (rows : List (List Int)) (k : Nat) : Nat := ((rows.take k).map List.length).sum
theorem tot_zero (rows : List (List Int)) : tot rows 0 = 0 := by simp [tot]
theorem tot_succ {rows : List (List Int)} {k : Nat} (h : k < rows.length) : tot rows (k + 1) = tot rows k + rows[k].length := by
  unfold tot
  rw [List.take_add_one, List.getElem?_eq_getElem h, List.map_append, List.sum_append]
  simp only [Option.toList, List.map_cons, List.map_nil, List.sum_cons, List.sum_nil, Nat.add_zero]
theorem tot_le {rows : List (List Int)} {k : Nat} (h : k ≤ rows.length) : tot rows k ≤ tot rows rows.length := by
  have e : ∀ d, k + d ≤ rows.length → tot rows k ≤ tot rows (k + d) := by
    intro d
    induction d with
    | zero => intro _; exact Nat.le_refl _
    | succ d ih =>
      intro hd
      have h1 := ih (by omega)
      rw [show k + (d + 1) = k + d + 1 from rfl, tot_succ (by omega)]
      omega
  have := e (rows.length - k) (by omega)
  rwa [show k + (rows.length - k) = rows.length by omega] at this
/-- The rows, the first k of them marked. -/
def mkRows (k0 : Nat) (rows : List (List Int)) (k : Nat) : List (List Int) := (List.range rows.length).map fun i => if i < k then marks (k0 + tot rows i) (rows.getD i []).length else rows.getD i []
theorem mkRows_length (k0 : Nat) (rows : List (List Int)) (k : Nat) : (mkRows k0 rows k).length = rows.length := by simp [mkRows]
theorem mkRows_at {k0 : Nat} {rows : List (List Int)} {k i : Nat} (h : i < rows.length) : (mkRows k0 rows k)[i]'(by rw [mkRows_length]; exact h) = if i < k then marks (k0 + tot rows i) rows[i].length else rows[i] := by
  simp [mkRows, List.getD_eq_getElem?_getD, h]
theorem mkRows_row {k0 : Nat} {rows : List (List Int)} {k i : Nat} (h : i < rows.length) : ((mkRows k0 rows k)[i]'(by rw [mkRows_length]; exact h)).length = rows[i].length := by
  rw [mkRows_at h]; split
  · rw [marks_length]
  · rfl
theorem mkRows_zero (k0 : Nat) (rows : List (List Int)) : mkRows k0 rows 0 = rows := by
  apply List.ext_getElem
  · rw [mkRows_length]
  · intro i h1 h2; rw [mkRows_at h2]; rfl
theorem mkRows_set {k0 : Nat} {rows : List (List Int)} {k : Nat} (h : k < rows.length) : (mkRows k0 rows k).set k (marks (k0 + tot rows k) rows[k].length) = mkRows k0 rows (k + 1) := by
  apply List.ext_getElem
  · rw [List.length_set, mkRows_length, mkRows_length]
  · intro i h1 h2
    have hi : i < rows.length := by rw [mkRows_length] at h2; exact h2
    rw [List.getElem_set, mkRows_at hi]
    by_cases e : k = i
    · subst e; rw [if_pos rfl, mkRows_at hi, if_pos (Nat.lt_succ_self k)]
    · rw [if_neg e, mkRows_at hi]
      by_cases h3 : i < k
      · rw [if_pos h3, if_pos (by omega)]
      · rw [if_neg h3, if_neg (by omega)]

end Go.Proofs.YtdhajndmebnknaaGreat

namespace Go.Proofs.YtdhajndmebnknaaGreat
open Go.RowKit

def MatRdA (w : World) (A : Option Addr) (rows : List (List Int)) : Prop :=
  0 < rows.length → ∃ a, A = some a ∧ a.block < w.heap.size ∧ ∀ i (h : i < rows.length), ∃ Ai ci, w.cell? (a.add i) = some (.slice Ai rows[i].length ci) ∧ RdA w Ai (ints rows[i])
theorem MatRdA.ext {w w' : World} {A : Option Addr} {rows : List (List Int)} (h : MatRdA w A rows) (hb : Below w.heap.size w w') : MatRdA w' A rows := by
  intro hn
  obtain ⟨g, e, hg, hc⟩ := h hn
  refine ⟨g, e, Nat.lt_of_lt_of_le hg hb.size, fun i hi => ?_⟩
  obtain ⟨Ai, ci, h1, h2⟩ := hc i hi
  exact ⟨Ai, ci, (hb.cell (by rw [Addr.add_block']; exact hg)).trans h1, h2.ext hb⟩
theorem RdA.int {w : World} {A : Option Addr} {L : List Int} (h : RdA w A (ints L)) : 0 < L.length → ∃ a, A = some a ∧ a.block < w.heap.size ∧ ∀ i (h : i < L.length), w.cell? (a.add i) = some (.int .i64 L[i]) := by
  intro hn
  obtain ⟨a, e, ha, hc⟩ := h (by simpa [ints] using hn)
  exact ⟨a, e, ha, fun i hi => by rw [hc i (by simpa [ints] using hi)]; simp [ints]⟩

end Go.Proofs.YtdhajndmebnknaaGreat

namespace Go.Proofs.YtdhajndmebnknaaGreat
open Go.RowKit

/-- A copy of a matrix in the making. -/
structure MatTo (B : Nat) (w : World) (rows : List (List Int)) (us : List Value) (n k : Nat) (wr : World) : Prop where
  outer : wr.ownsRow B 85 1 (.slice (some ⟨B, 0, none⟩) n n) n us
  row : ∀ i (h : i < rows.length), i < k → ∃ Ai ci, us[i]? = some (.slice Ai rows[i].length ci) ∧ wr.ownsRow B 2 1 (.slice Ai rows[i].length ci) rows[i].length (ints rows[i])
  apart : ∀ (i j : Nat) (u v : Value) (g : Nat), i < k → j < k → i ≠ j → us[i]? = some u → us[j]? = some v → u.ownBlock = some g → v.ownBlock ≠ some g
  ext : Below B w wr

theorem MatTo.step {B : Nat} {w : World} {rows : List (List Int)} {us : List Value} {n k : Nat} {wr : World} (h : MatTo B w rows us n k wr) (hB : B ≤ wr.heap.size) (hk : k < rows.length) (hn : rows.length = n) {w' : World} {A' : Option Addr} {c' : Nat}
    (ho : w'.ownsRow wr.heap.size 2 1 (.slice A' rows[k].length c') rows[k].length (ints rows[k])) (hb : Below wr.heap.size wr w') :
    MatTo B w rows (us.set k (.slice A' rows[k].length c')) n (k + 1) (w'.setCell ⟨B, k, none⟩ (.slice A' rows[k].length c')) := by
  have h1 := own_ext hb h.outer
  have h2 := (h1.stored k (.slice A' rows[k].length c')).1
  have hul : us.length = n := by have := h.outer.1; omega
  have hne : (Value.slice A' rows[k].length c').ownBlock ≠ some B := own_own_ne h1 ho (by decide) rfl
  have keep : ∀ {v : Value} {m : Nat} {xs : List Value}, w'.ownsRow B 2 1 v m xs → (w'.setCell ⟨B, k, none⟩ (.slice A' rows[k].length c')).ownsRow B 2 1 v m xs := by
    intro v m xs hv
    exact ((Chg.refl (fun b => b = B) w').store (p := ⟨B, k, none⟩) rfl _).own hv (fun g hg e => own_own_ne h1 hv (by decide) rfl (by rw [hg, e]))
  refine ⟨h2, fun i hi hik => ?_, fun i j u v g hi hj hij hu hv hg => ?_, ?_⟩
  · by_cases e : i = k
    · subst e
      refine ⟨A', c', by rw [List.getElem?_set_self (by omega)], keep (own_base ho hB)⟩
    · obtain ⟨Ai, ci, hx, hy⟩ := h.row i hi (by omega)
      exact ⟨Ai, ci, by rw [List.getElem?_set_ne (Ne.symm e)]; exact hx, keep (own_ext hb hy)⟩
  · by_cases e : i = k
    · subst e
      rw [List.getElem?_set_self (by omega)] at hu
      rw [List.getElem?_set_ne (by omega)] at hv
      obtain rfl := Option.some.inj hu
      obtain ⟨Aj, cj, hx, hy⟩ := h.row j (by omega) (by omega)
      rw [hv] at hx
      obtain rfl := Option.some.inj hx
      intro hg2
      have := (ho.lt g hg).1
      have := (hy.lt g hg2).2
      omega
    · rw [List.getElem?_set_ne (Ne.symm e)] at hu
      by_cases e2 : j = k
      · subst e2
        rw [List.getElem?_set_self (by omega)] at hv
        obtain rfl := Option.some.inj hv
        obtain ⟨Ai, ci, hx, hy⟩ := h.row i (by omega) (by omega)
        rw [hu] at hx
        obtain rfl := Option.some.inj hx
        intro hg2
        have := (ho.lt g hg2).1
        have := (hy.lt g hg).2
        omega
      · rw [List.getElem?_set_ne (Ne.symm e2)] at hv
        exact h.apart i j u v g (by omega) (by omega) hij hu hv hg
  · exact (h.ext.trans (hb.mono hB)).setCell (p := ⟨B, k, none⟩) (Nat.le_refl _) _
end Go.Proofs.YtdhajndmebnknaaGreat

namespace Go.Proofs.YtdhajndmebnknaaGreat
open Go.RowKit

end Go.Proofs.YtdhajndmebnknaaGreat

namespace Go.Proofs.YtdhajndmebnknaaGreat
open Go.RowKit

end Go.Proofs.YtdhajndmebnknaaGreat

namespace Go.Proofs.YtdhajndmebnknaaGreat
open Go.RowKit

theorem MatAt.push {w1 w2 w3 : World} {lo hi hi2 : Nat} {A : Option Addr} {c : Nat} {vs : List Value} {rows : List (List Int)} (h : MatAt w1 lo hi A c vs rows) (hb : Below w1.heap.size w1 w2) {o : Obj} {Ar : Option Addr} {cr : Nat} {r : List Int}
    (ho : w2.ownsRow hi2 2 1 (.slice Ar r.length cr) r.length (ints r)) (hlo : lo ≤ hi2) (hh : hi ≤ hi2) (hg : (w2.alloc o).grownBy w3 (Value.slice A rows.length c).ownBlock) {g3 cap3 : Nat}
    (hout : w3.ownsRow lo 85 1 (.slice (some ⟨g3, 0, none⟩) (rows.length + 1) cap3) (rows.length + 1) (vs ++ [.slice Ar r.length cr])) :
    MatAt w3 lo w3.heap.size (some ⟨g3, 0, none⟩) cap3 (vs ++ [.slice Ar r.length cr]) (rows ++ [r]) := by
  have hvl : vs.length = rows.length := by have := h.outer.1; omega
  have hout1 := own_ext hb h.outer
  have keep : ∀ {b : Nat} {v : Value} {n : Nat} {xs : List Value}, w2.ownsRow b 2 1 v n xs → w3.ownsRow b 2 1 v n xs := by
    intro b v n xs hv
    refine World.ownsRow.kept (hv.alloc o) hg ?_
    cases e : v.ownBlock with
    | none => exact .inl rfl
    | some g => exact .inr (fun e2 => own_own_ne hv hout1 (by decide) e e2.symm)
  have old : ∀ i (hir : i < rows.length), ∃ Ai ci, vs[i]? = some (.slice Ai rows[i].length ci) ∧ w3.ownsRow lo 2 1 (.slice Ai rows[i].length ci) rows[i].length (ints rows[i]) ∧ ∀ a, Ai = some a → a.block < hi := by
    intro i hir
    obtain ⟨Ai, ci, h1, h2, h3⟩ := h.row i hir
    exact ⟨Ai, ci, h1, keep (own_ext hb h2), h3⟩
  refine ⟨by rw [List.length_append]; exact hout, fun a ha => by cases ha; exact (hout.lt _ rfl).2, fun i hi' => ?_, fun i j u v g hij hu hv hg' => ?_⟩
  · by_cases e : i < rows.length
    · obtain ⟨Ai, ci, h1, h2, h3⟩ := old i e
      refine ⟨Ai, ci, ?_, ?_, fun a ha => by subst ha; exact (h2.lt _ rfl).2⟩
      · rw [List.getElem?_append_left (by omega), List.getElem_append_left e]; exact h1
      · rw [List.getElem_append_left e]; exact h2
    · have e' : i = rows.length := by simp at hi'; omega
      subst e'
      refine ⟨Ar, cr, ?_, ?_, fun a ha => by subst ha; exact ((keep ho).lt _ rfl).2⟩
      · rw [List.getElem?_append_right (by omega), hvl]; simp
      · simp only [List.getElem_append_right (Nat.le_refl _), Nat.sub_self, List.getElem_cons_zero]
        exact own_base (keep ho) hlo
  · have last : ∀ (k : Nat) (x : Value), (vs ++ [Value.slice Ar r.length cr])[k]? = some x → (k < rows.length ∧ vs[k]? = some x) ∨ (k = rows.length ∧ x = .slice Ar r.length cr) := by
      intro k x hx
      by_cases e : k < rows.length
      · rw [List.getElem?_append_left (by omega)] at hx
        exact .inl ⟨e, hx⟩
      · rw [List.getElem?_append_right (by omega), hvl] at hx
        have : k - rows.length = 0 := by
          rcases Nat.eq_zero_or_pos (k - rows.length) with h0 | h0
          · exact h0
          · rw [List.getElem?_eq_none (by simp; omega)] at hx; cases hx
        rw [this] at hx
        refine .inr ⟨by omega, by simpa using hx.symm⟩
    have low : ∀ (k : Nat) (x : Value) (g : Nat), k < rows.length → vs[k]? = some x → x.ownBlock = some g → g < hi := by
      intro k x g hk hx hgx
      obtain ⟨Ai, ci, h1, _, h3⟩ := old k hk
      rw [hx] at h1
      obtain rfl := Option.some.inj h1
      cases Ai with
      | none => simp [Value.ownBlock] at hgx
      | some a =>
        simp only [Value.ownBlock, Option.some.injEq] at hgx
        rw [← hgx]; exact h3 a rfl
    rcases last i u hu with ⟨hi1, hu1⟩ | ⟨hi1, rfl⟩
    · rcases last j v hv with ⟨hj1, hv1⟩ | ⟨hj1, rfl⟩
      · exact h.apart i j u v g hij hu1 hv1 hg'
      · intro hg2
        have h1 := low i u g hi1 hu1 hg'
        have h2 := (ho.lt g hg2).1
        omega
    · rcases last j v hv with ⟨hj1, hv1⟩ | ⟨hj1, rfl⟩
      · intro hg2
        have h1 := low j v g hj1 hv1 hg2
        have h2 := (ho.lt g hg').1
        omega
      · omega
theorem MatAt.put {w : World} {lo hi : Nat} {A : Option Addr} {c : Nat} {vs : List Value} {rows : List (List Int)} (h : MatAt w lo hi A c vs rows) {y x : Nat} (hy : y < rows.length) (hx : x < rows[y].length) :
    ∃ g gr cy, A = some ⟨g, 0, none⟩ ∧ g < w.heap.size ∧ w.cell? ⟨g, y, none⟩ = some (.slice (some ⟨gr, 0, none⟩) rows[y].length cy) ∧ lo ≤ gr ∧ gr < hi ∧ gr < w.heap.size ∧ w.frozen? ⟨gr, x, none⟩ = false ∧ w.cell? ⟨gr, x, none⟩ = some (.int .i64 rows[y][x]) ∧
      ∀ v, MatAt (w.setCell ⟨gr, x, none⟩ (.int .i64 v)) lo hi A c vs (rows.set y (rows[y].set x v)) := by
  obtain ⟨g, rfl, hg, _⟩ := h.rd (by omega)
  obtain ⟨Ay, cy, hv, ho, ht⟩ := h.row y hy
  obtain ⟨gr, rfl, hgr, hcr⟩ := (Rd.of_own ho) (by simp [ints]; omega)
  have hcell := (h.outer.cellAt y (by omega)).trans hv
  have hb := ho.lt gr rfl
  refine ⟨g, gr, cy, rfl, hg, hcell, hb.1, ht _ rfl, hb.2, ho.frozenAt x, ?_, fun v => ?_⟩
  · have := ho.cellAt x (by omega)
    rw [this]; simp [ints, hx]
  · refine h.turn hy hv ht _ (by simp) ?_ ((Chg.refl _ _).store (p := ⟨gr, x, none⟩) ⟨_, rfl, rfl⟩ _)
    have := (ho.stored x (.int .i64 v)).1
    rwa [show (ints rows[y]).set x (.int .i64 v) = ints (rows[y].set x v) from by simp [ints, List.map_set]] at this

theorem MatAt.nil (w : World) (lo hi : Nat) (A : Option Addr) (c : Nat) (h : w.ownsRow lo 85 1 (.slice A 0 c) 0 []) (ht : ∀ a, A = some a → a.block < hi) : MatAt w lo hi A c [] [] :=
  ⟨h, ht, fun i hi => absurd hi (Nat.not_lt_zero _), fun i j u v g _ hu => by simp at hu⟩

theorem MatAt.low {w : World} {lo lo' hi hi' : Nat} {A : Option Addr} {c : Nat} {vs : List Value} {rows : List (List Int)} (h : MatAt w lo hi A c vs rows) (h1 : lo' ≤ lo) (h2 : hi ≤ hi') : MatAt w lo' hi' A c vs rows :=
  ⟨own_base h.outer h1, fun a ha => Nat.lt_of_lt_of_le (h.top a ha) h2, fun i hi => (by obtain ⟨Ai, ci, a1, a2, a3⟩ := h.row i hi; exact ⟨Ai, ci, a1, own_base a2 h1, fun a ha => Nat.lt_of_lt_of_le (a3 a ha) h2⟩), h.apart⟩

end Go.Proofs.YtdhajndmebnknaaGreat
