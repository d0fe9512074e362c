/- A slice of a call's own that looks into its block somewhere: a queue, cut at its head and appended to. -/
import Derived.Test.YtkamkjbllmgifaaEq
namespace Go.Proofs.Ytkamkjbllmgifaa
open Go.RowKit

/-- The slice of n elements from cell o of block g on, with room for cap, holds the cells xs. -/
def Que (w : World) (base : Nat) (e : TypeId) (size : Nat) (g o n cap : Nat) (xs : List Value) : Prop :=
  xs.length = n * size ∧ base ≤ g ∧ n ≤ cap ∧ cap ≤ maxLen ∧ ∃ cur, w.heap[g]? = some (.cells cur e (0, 0)) ∧ o + cap * size ≤ cur.size ∧ (cur.toList.drop o).take (n * size) = xs

section
variable {w w' : World} {base : Nat} {e : TypeId} {size g o n cap : Nat} {xs : List Value}
theorem Que.lt (h : Que w base e size g o n cap xs) : g < w.heap.size := by
  obtain ⟨_, _, _, _, cur, hg, _⟩ := h
  exact (Array.getElem?_eq_some_iff.1 hg).1
theorem Que.of_block (h : Que w base e size g o n cap xs) (hb : w'.heap[g]? = w.heap[g]?) : Que w' base e size g o n cap xs := by
  obtain ⟨h1, h2, h3, h4, cur, hg, h5⟩ := h
  exact ⟨h1, h2, h3, h4, cur, hb.trans hg, h5⟩
theorem Que.ext (h : Que w base e size g o n cap xs) (hb : Below w.heap.size w w') : Que w' base e size g o n cap xs := h.of_block (hb.block g h.lt)
theorem Que.kept (h : Que w base e size g o n cap xs) {row : Option Nat} (hb : w.grownBy w' row) (hne : some g ≠ row) : Que w' base e size g o n cap xs := h.of_block (hb.block g h.lt hne)
theorem Que.lit (w : World) (base : Nat) (e : TypeId) (size n : Nat) (cs : Array Value) (hb : base ≤ w.heap.size) (hn : n ≤ maxLen) (hs : cs.size = n * size) : Que (w.alloc (.cells cs e)) base e size w.heap.size 0 n n cs.toList :=
  ⟨by simpa using hs, hb, Nat.le_refl _, hn, cs, heap_alloc_new w _, by omega, by rw [List.drop_zero, List.take_of_length_le]; simp [hs]⟩
theorem Que.cell (h : Que w base e size g o n cap xs) (i : Nat) (hi : i < xs.length) : w.cell? ⟨g, o + i, none⟩ = some xs[i] := by
  obtain ⟨h1, _, _, _, cur, hg, _, hx⟩ := h
  rw [cell_of_row w g (o + i) cur e (0, 0) hg]
  have : xs[i]? = some xs[i] := List.getElem?_eq_getElem hi
  rw [← this]
  conv => rhs; rw [← hx]
  rw [List.getElem?_take, if_pos (by omega), List.getElem?_drop]
  simp
theorem Que.tail (h : Que w base e size g o n cap xs) (hn : 1 ≤ n) : Que w base e size g (if cap = 1 then o else o + size) (n - 1) (cap - 1) (xs.drop size) := by
  obtain ⟨h1, h2, h3, h4, cur, hg, h5, hx⟩ := h
  obtain ⟨m, rfl⟩ : ∃ m, n = m + 1 := ⟨n - 1, by omega⟩
  obtain ⟨c, rfl⟩ : ∃ c, cap = c + 1 := ⟨cap - 1, by omega⟩
  rw [Nat.succ_mul] at h5 h1
  refine ⟨by simp; omega, h2, by omega, by omega, cur, hg, ?_, ?_⟩
  · split
    · rename_i hc
      obtain rfl : c = 0 := by omega
      simp; omega
    · simp only [Nat.add_sub_cancel]; omega
  · simp only [Nat.add_sub_cancel]
    rw [← hx, Nat.succ_mul]
    by_cases hc : c + 1 = 1
    · obtain rfl : c = 0 := by omega
      obtain rfl : m = 0 := by omega
      simp only [Nat.zero_mul, Nat.zero_add, List.take_zero]
      rw [List.drop_of_length_le]
      exact List.length_take_le _ _
    · rw [if_neg hc, List.drop_take, List.drop_drop]
      congr 1
      omega

theorem Que.append {P : Program} (t ty : TypeId) {i : TypeInfo} {z : Value} {bytes m : Nat} {news : List Value} (ht : P.underlying t = some (.slice e)) (hi : P.info? e = some i) (hz : i.zero = some z) (hsize : i.size = size) (hby : i.bytes = bytes)
    (hzs : z.cells.size = size) (h : Que w base e size g o n cap xs) (ad : Addr) (c : Nat) (hl : news.length = m * size) (hnews : ∀ j u, news[j]? = some u → w.cell? (ad.add j) = some u) (h1 : ∀ u ∈ news, u.oneCell' = true)
    (h63 : n + m ≤ maxLen) (hbytes : (n + m) * bytes ≤ 140737488355328) :
    ∃ g' o' cap' w', (Builtin.append_ #[t, t] ty #[.slice (some ⟨g, o, none⟩) n cap, .slice (some ad) m c]).run P w = .ok (.slice (some ⟨g', o', none⟩) (n + m) cap') w' ∧ Que w' base e size g' o' (n + m) cap' (xs ++ news) ∧ w.grownBy w' (some g) ∧ (g' = g ∨ g' = w.heap.size) := by
  subst hsize
  subst hby
  have hh := h
  obtain ⟨hx, hb, hnc, hcm, cur, hg, hfit, htake⟩ := h
  have hlen : (xs ++ news).length = (n + m) * i.size := by rw [List.length_append, hx, hl, Nat.add_mul]
  have hlt := hh.lt
  by_cases hroom : n + m ≤ cap
  · have hfit2 : o + n * i.size + news.length ≤ cur.size := by
      have : (n + m) * i.size ≤ cap * i.size := Nat.mul_le_mul_right _ hroom
      rw [Nat.add_mul] at this
      omega
    have hf := run_firstCells_some (P := P) w i.size m ad m c news hl hnews
    have hst := run_storeCells_at P g (o + n * i.size) e news 0 cur w hg (by simpa using hfit2) h1
    simp only [Nat.add_zero] at hst
    refine ⟨g, o, cap, _, by simp [Builtin.append_, run_underlying ht, sizeOf, typeInfo, hi, Builtin.lenOf, hroom, hf, Addr.add_lit, hst]; rfl, ⟨hlen, hb, hroom, hcm, _, setRow_heap w g cur _ e _ hg, ?_, ?_⟩, ⟨rfl, rfl, rfl, by simp, fun k hk hk2 => setRow_other w g k _ (fun e => hk2 (by rw [e]))⟩, .inl rfl⟩
    · simp only [List.size_toArray, List.length_append, List.length_take, List.length_drop, Array.length_toList]
      omega
    · have hcl : cur.toList.length = cur.size := Array.length_toList
      have e1 : xs = (cur.toList.drop o).take (n * i.size) := htake.symm
      rw [List.drop_append_of_le_length (by simp; omega), List.drop_take]
      have e2 : o + n * i.size - o = n * i.size := by omega
      rw [e2, ← e1, ← List.append_assoc, ← hlen]
      exact List.take_left
  · have holds : ∀ j u, xs[j]? = some u → w.cell? ((⟨g, o, none⟩ : Addr).add j) = some u := by
      intro j u hu
      obtain ⟨hj, e⟩ := List.getElem?_eq_some_iff.1 hu
      rw [Addr.add_lit, hh.cell j hj, e]
    have hr := run_append_grow (P := P) w t ty e i z ht hi hz ⟨g, o, none⟩ n cap xs hx holds ad m c news hl hnews (by omega) (by simp only [maxLen] at h63; omega) (growslice_fits (by omega) hbytes)
    have hge := grownCap_ge w (n + m) cap e
    have hcm' : grownCap w (n + m) cap e ≤ maxLen := grownCap_le_maxLen w (n + m) cap e h63
    refine ⟨_, 0, _, _, hr, ⟨hlen, by omega, hge, hcm', _, heap_alloc_new w.drew _, ?_, ?_⟩, ⟨rfl, rfl, rfl, by simp, fun j hj _ => Below.heap_alloc w.drew _ j hj⟩, .inr rfl⟩
    · simp only [Array.size_append, List.size_toArray, size_zeroCells, hzs, hx, hl, ← Nat.add_mul, Nat.zero_add]
      exact Nat.le_of_eq (by congr 1; omega)
    · rw [List.drop_zero]
      simp only [Array.toList_append, List.append_assoc]
      rw [← List.append_assoc, ← hlen]
      exact List.take_left
end

section
variable {T e : TypeId} {z : Value} {size bytes : Nat}
/-- append of one element, at a plain list of operations. -/
theorem wpList_appQ (E : ElemT T e z size bytes) {w : World} {ops : Array Oper} {rest : List Oper} {o : Oper} {a : Act} {Q : Exit → Act → World → Prop} (hgd : o.guard = none) (s x : Operand)
    (ho : o.op = .call { callee := .builtin .append, args := #[s, x], argTypes := #[T, T] })
    (base g off n cap : Nat) (xs : List Value) (hs : a.eval s = .slice (some ⟨g, off, none⟩) n cap) (hown : Que w base e size g off n cap xs)
    (B : Nat) (cs : Array Value) (hx : a.eval x = .slice (some ⟨B, 0, none⟩) 1 1) (hb : w.heap[B]? = some (.cells cs e (0, 0))) (hcs : cs.size = size) (h1 : ∀ u ∈ cs.toList, u.oneCell' = true)
    (hn : n ≤ 1000000000)
    (h : ∀ g' o' cap' w', Que w' base e size g' o' (n + 1) cap' (xs ++ cs.toList) → w.grownBy w' (some g) → (g' = g ∨ g' = w.heap.size) → wpList Try.prog ops Q rest (a.put o.dst (.slice (some ⟨g', o', none⟩) (n + 1) cap')) w') : wpList Try.prog ops Q (o :: rest) a w := by
  obtain ⟨i0, hi, hz0, hz1, hz2⟩ := info_parts E.info
  have hsm := E.small
  have h63 : n + 1 ≤ maxLen := by unfold maxLen; omega
  have hby : (n + 1) * bytes ≤ 140737488355328 := by
    have : (n + 1) * bytes ≤ 1000000001 * 64 := Nat.mul_le_mul (by omega) hsm
    omega
  refine wpList_plain hgd fun K hK => ?_
  obtain ⟨g', o', cap', w', hr, h2, h3, h4⟩ := hown.append (P := Try.prog) T o.type E.under hi hz0 hz1 hz2 E.cells ⟨B, 0, none⟩ 1 (m := 1) (news := cs.toList) (by simp [hcs]) (World.news_of_block hb) h1 h63 hby
  unfold Oper.wp execOp
  simp only [ho, resolve, invoke, builtin, Sem.run_bind, Sem.run_pure, Result.andThen_ok, List.map_toArray, List.map_cons, List.map_nil, hs, hx, hr]
  exact hK _ _ (h g' o' cap' w' h2 h3 h4)
end
end Go.Proofs.Ytkamkjbllmgifaa
