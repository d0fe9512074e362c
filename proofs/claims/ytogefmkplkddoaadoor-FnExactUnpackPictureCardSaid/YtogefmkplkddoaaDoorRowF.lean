/- Rows of bytes that a text was turned into: they bear the mark of the run-time behind their last cell. -/
import Derived.Test.YtogefmkplkddoaaDoorBts
import Derived.ArgAppend
namespace Go.Proofs.YtogefmkplkddoaaDoor
open Go.RowKit

def RowF (w : World) (base : Nat) (v : Value) (n : Nat) (xs : List Value) : Prop :=
  ∃ g cap cur fr, v = .slice (some ⟨g, 0, none⟩) n cap ∧ base ≤ g ∧ w.heap[g]? = some (.cells cur 5 fr) ∧ (cur.size ≤ fr.1 ∨ fr = (0, 0)) ∧ n ≤ cap ∧ cap ≤ maxLen ∧ cur.size = cap ∧ cur.toList.take n = xs
section
variable {w w' : World} {base n : Nat} {v : Value} {xs : List Value}
theorem RowF.len (h : RowF w base v n xs) : xs.length = n := by
  obtain ⟨g, cap, cur, fr, _, _, _, _, h1, _, h2, h3⟩ := h
  rw [← h3, List.length_take]; simp; omega
theorem RowF.block (h : RowF w base v n xs) {g : Nat} {cap : Nat} (hv : v = .slice (some ⟨g, 0, none⟩) n cap) : base ≤ g ∧ g < w.heap.size := by
  obtain ⟨g', cap', cur, fr, e, hb, hh, _⟩ := h
  rw [hv] at e
  injection e with e1
  injection e1 with e1
  injection e1 with e1
  subst e1
  refine ⟨hb, ?_⟩
  by_cases hlt : g < w.heap.size
  · exact hlt
  · rw [Array.getElem?_eq_none (by omega)] at hh; cases hh
theorem RowF.under {B : Nat} (h : RowF w base v n xs) (hb : Below B w w') (hB : w.heap.size ≤ B) : RowF w' base v n xs := by
  obtain ⟨g, cap, cur, fr, e, h1, hh, hr⟩ := h
  refine ⟨g, cap, cur, fr, e, h1, (hb.block g ?_).trans hh, hr⟩
  by_cases hlt : g < w.heap.size
  · omega
  · rw [Array.getElem?_eq_none (by omega)] at hh; cases hh
theorem RowF.ext (h : RowF w base v n xs) (hb : Below w.heap.size w w') : RowF w' base v n xs := h.under hb (Nat.le_refl _)
theorem RowF.cell (h : RowF w base v n xs) {g cap : Nat} (hv : v = .slice (some ⟨g, 0, none⟩) n cap) (j : Nat) (u : Value) (hj : xs[j]? = some u) : w.cell? ⟨g, j, none⟩ = some u := by
  obtain ⟨g', cap', cur, fr, e, hb, hh, _, h1, _, h2, h3⟩ := h
  rw [hv] at e
  injection e with e1
  injection e1 with e1
  injection e1 with e1
  subst e1
  have hl : j < n := by
    have := (List.getElem?_eq_some_iff.1 hj).1
    rw [← h3, List.length_take] at this; omega
  rw [← h3, List.getElem?_take_of_lt hl] at hj
  simp [World.cell?, hh]
  simpa using hj
theorem RowF.of_own {e : TypeId} (he : e = 5) {g cap : Nat} (h : w.ownsRow base e 1 (.slice (some ⟨g, 0, none⟩) n cap) n xs) : RowF w base (.slice (some ⟨g, 0, none⟩) n cap) n xs := by
  subst he
  rcases h.2 with ⟨h1, _⟩ | ⟨g', cap', cur, h1, h2, h3, h4, h5, h6, h7⟩
  · cases h1
  · injection h1 with e1 _ e3
    injection e1 with e1
    injection e1 with e1
    subst e1 e3
    exact ⟨g, cap, cur, (0, 0), rfl, h2, h3, .inr rfl, h4, h5, by omega, by simpa using h7⟩
end
theorem RowF.str {w : World} {base g n cap : Nat} {l : List UInt8} (h : RowF w base (.slice (some ⟨g, 0, none⟩) n cap) n (u8s l)) :
    (convert 30 9 (.slice (some ⟨g, 0, none⟩) n cap)).run Tryd.prog w = .ok (.string ⟨l.toArray⟩) w := by
  have hl : l.length = n := by have := h.len; simpa [u8s] using this
  subst hl
  refine run_convert_bytes_back w _ _ 5 _ _ l Tryd.underlying30 Tryd.underlying5 Tryd.underlying9 (fun j hj => ?_)
  rw [Addr.add_lit, Nat.zero_add]
  exact h.cell rfl j _ (by simp [u8s, hj])
/-- A text turned into bytes. -/
theorem bytes_of_str (V : World) (l : List UInt8) (hl : l.length ≤ 1000000) : ∃ cap C, (convert 9 30 (.string ⟨l.toArray⟩)).run Tryd.prog V = .ok (.slice (some ⟨V.heap.size, 0, none⟩) l.length cap) (V.drew.alloc (.cells C 5 (C.size, C.size + 1))) ∧
    RowF (V.drew.alloc (.cells C 5 (C.size, C.size + 1))) V.heap.size (.slice (some ⟨V.heap.size, 0, none⟩) l.length cap) l.length (u8s l) := by
  have h := run_bytes_of_string (P := Tryd.prog) V 9 30 5 ⟨l.toArray⟩ Tryd.underlying9 Tryd.underlying30 Tryd.underlying5
  have hz : (ByteArray.mk l.toArray).size = l.length := by simp [ByteArray.size]
  rw [hz] at h
  have hge := grownCap_ge V l.length 0 5
  have hle := grownCap_le_maxLen V l.length 0 5 (by unfold maxLen; omega)
  refine ⟨_, _, h, ⟨V.heap.size, _, _, _, rfl, Nat.le_refl _, heap_alloc_new V.drew _, .inl (Nat.le_refl _), hge, hle, ?_, ?_⟩⟩
  · simp [bytesRow] at *; omega
  · simp only [bytesRow, Array.toList_append]
    rw [List.take_left' (by simp)]
    simp [u8s]
set_option maxHeartbeats 400000 in
/-- append of one byte. -/
theorem wpList_appF {w : World} {ops : Array Oper} {rest : List Oper} {o : Oper} {a : Act} {Q : Exit → Act → World → Prop} (hgd : o.guard = none) (s x : Operand)
    (ho : o.op = .call { callee := .builtin .append, args := #[s, x], argTypes := #[30, 30] })
    (base : Nat) (v : Value) (n : Nat) (xs : List Value) (hs : a.eval s = v) (hr : RowF w base v n xs)
    (B : Nat) (u : Value) (hx : a.eval x = .slice (some ⟨B, 0, none⟩) 1 1) (hb : w.heap[B]? = some (.cells #[u] 5 (0, 0))) (h1 : u.oneCell' = true)
    (hn : n ≤ 1000000000) (hbase : base ≤ w.heap.size)
    (h : ∀ g cap w', RowF w' base (.slice (some ⟨g, 0, none⟩) (n + 1) cap) (n + 1) (xs ++ [u]) → Below base w w' → wpList Tryd.prog ops Q rest (a.put o.dst (.slice (some ⟨g, 0, none⟩) (n + 1) cap)) w') : wpList Tryd.prog ops Q (o :: rest) a w := by
  obtain ⟨i0, hi, hz0, hz1, hz2⟩ := info_parts byteT.info
  have hlen := hr.len
  have hr0 := hr
  obtain ⟨g, cap, cur, fr, rfl, hgb, hh, hfr, hnc, hcm, hcs, htk⟩ := hr
  refine wpList_append_arg w hgd s x _ ho _ i0 (.int .u8 0) 1 1 Tryd.underlying30 hi hz0 hz1 hz2 rfl (by decide) g 0 n cap xs hs (by omega) (fun j u hj => by rw [Nat.zero_add]; exact hr0.cell rfl j u hj) ⟨B, 0, none⟩ 1 1 [u] hx rfl (World.news_of_block hb) (by simpa using h1) ?_ (by unfold maxLen; omega) (by omega) ?_ ?_
  · intro hroom j hj
    have hj0 : j = 0 := by simpa using hj
    subst hj0
    have hsz : n < cur.size := by omega
    refine ⟨by simp [World.cell?, hh]; exact hsz, ?_⟩
    simp only [World.frozen?, hh, Nat.zero_add, Nat.mul_one, Nat.add_zero]
    rcases hfr with h | h
    · have : ¬ fr.1 ≤ n := by omega
      obtain ⟨lo, hi'⟩ := fr
      simp at this ⊢; omega
    · subst h; simp
  · intro hroom
    rw [show (0 + n * 1) = n by omega]
    refine h g cap _ ⟨g, cap, cur.setIfInBounds n u, fr, rfl, hgb, ?_, ?_, by omega, hcm, by simpa using hcs, ?_⟩ ?_
    · simp [World.setCells, World.setCell, Array.getElem?_modify, hh]
    · simpa using hfr
    · have hsz : n < cur.size := by omega
      rw [Array.toList_setIfInBounds, List.take_add_one, List.getElem?_set_self (by simpa using hsz)]
      rw [List.take_set_of_le (Nat.le_refl _), htk]
      rfl
    · exact (Below.refl _ _).setCell (p := ⟨g, n, none⟩) hgb _
  · intro _ v' w' hown hgrow
    rcases hown.2 with ⟨_, h0⟩ | ⟨g', cap', cur', hv, hg', _⟩
    · omega
    · subst hv
      refine h g' cap' w' ?_ ((Below.refl base w).grown hgrow hbase (by intro z hz; cases hz))
      obtain ⟨g2, cap2, cur2, fr2, e1, e2, e3⟩ := RowF.of_own rfl hown
      exact ⟨g2, cap2, cur2, fr2, e1, by omega, e3⟩
end Go.Proofs.YtogefmkplkddoaaDoor
