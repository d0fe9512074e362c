/- Ranging over a map keyed by spots. -/
import Derived.Test.YtdhajndmebnknaaMap
import Derived.Maps.RangeWalk
namespace Go.Proofs.Ytdhajndmebnknaa
open Go.RowKit
open Go.ChangeMaps (setBlock)
open Go.MapKept (heap_set)

/-- A loop over the map B, at the iterator r: which keys are still to come. -/
def RngF {κ : Type} (kv : κ → Value) (good : κ → Prop) (w : World) (B r : Nat) (f : κ → Option Value) (left : κ → Bool) (cnt : Nat) : Prop :=
  ∃ es clock since seen c0, w.heap[B]? = some (.map es clock) ∧ ((∀ e ∈ es.toList, ∃ a, good a ∧ e.key = kv a ∧ f a = some e.val) ∧ (∀ a v, f a = some v → ∃ e ∈ es.toList, e.key = kv a) ∧
    es.toList.Pairwise (fun x y => x.key ≠ y.key) ∧ es.toList.Pairwise (fun x y => x.born < y.born) ∧ ∀ e ∈ es.toList, e.born < clock) ∧
    w.heap[r]? = some (.mapIter (some B) since seen c0) ∧ (∀ x ∈ es.toList, x.born < since) ∧ (leftOf es seen).size = cnt ∧
    (∀ x ∈ es.toList, ∀ a, x.key = kv a → left a = !seen.contains x.born) ∧ (∀ a, left a = true → ∃ x ∈ es.toList, x.key = kv a) ∧ since ≤ c0 ∧ since ≤ clock

section
variable {κ : Type} {kv : κ → Value} {good : κ → Prop} {w w' : World} {B r : Nat} {f : κ → Option Value} {left : κ → Bool} {cnt : Nat} {kt : TypeId}
theorem RngF.map (h : RngF kv good w B r f left cnt) : MapF kv good w B f := by
  obtain ⟨es, clock, _, _, _, hb, hm, _⟩ := h
  exact ⟨es, clock, hb, hm⟩
theorem RngF.lt (h : RngF kv good w B r f left cnt) : r < w.heap.size := by
  obtain ⟨es, clock, since, seen, c0, _, _, hr, _⟩ := h
  exact (Array.getElem?_eq_some_iff.1 hr).1
theorem RngF.of_blocks (h : RngF kv good w B r f left cnt) (hb : w'.heap[B]? = w.heap[B]?) (hr : w'.heap[r]? = w.heap[r]?) : RngF kv good w' B r f left cnt := by
  obtain ⟨es, clock, since, seen, c0, h1, h2, h3, h4⟩ := h
  exact ⟨es, clock, since, seen, c0, hb.trans h1, h2, hr.trans h3, h4⟩
theorem RngF.ext (h : RngF kv good w B r f left cnt) (hb : Below w.heap.size w w') : RngF kv good w' B r f left cnt := h.of_blocks (hb.block B h.map.lt) (hb.block r h.lt)
theorem RngF.kept (h : RngF kv good w B r f left cnt) {row : Option Nat} (hb : w.grownBy w' row) (h1 : some B ≠ row) (h2 : some r ≠ row) : RngF kv good w' B r f left cnt := h.of_blocks (hb.block B h.map.lt h1) (hb.block r h.lt h2)
theorem RngF.ne (h : RngF kv good w B r f left cnt) : r ≠ B := by
  obtain ⟨es, clock, since, seen, c0, hb, _, hr, _⟩ := h
  intro e
  rw [e, hb] at hr
  cases hr
theorem born_nodup {l : List MapEntry} (h : l.Pairwise fun x y => x.born < y.born) : (l.map (·.born)).Nodup := by
  rw [List.Nodup, List.pairwise_map]
  exact h.imp (fun h e => by omega)
theorem MapF.range (K : KeyT kt kv good) (h : MapF kv good w B f) {t e : TypeId} (ht : Try.prog.underlying t = some (.map kt e)) :
    ∃ w', (Instr.range t (.map (some B))).run Try.prog w = .ok (.pointer (some ⟨w.heap.size, 0, none⟩)) w' ∧ (∃ cnt, RngF kv good w' B w.heap.size f (fun a => (f a).isSome) cnt) ∧ Below w.heap.size w w' ∧ w'.heap.size = w.heap.size + 1 := by
  have hlt := h.lt
  obtain ⟨es, clock, hb, hm⟩ := h
  refine ⟨_, run_range_map w t kt e B es clock ht hb, ⟨_, es, clock, clock, #[], clock, ((MapKept.heap_alloc w _).2 B hlt).trans hb, hm, (MapKept.heap_alloc w _).1, hm.2.2.2.2, rfl, ?_, ?_, Nat.le_refl _, Nat.le_refl _⟩, Ext.more (Ext.refl _) _, by simp⟩
  · intro x hx a hxa
    obtain ⟨b, _, h1, h2⟩ := hm.1 x hx
    obtain rfl : b = a := K.inj _ _ (h1.symm.trans hxa)
    simp [h2]
  · intro a ha
    obtain ⟨v, hv⟩ := Option.isSome_iff_exists.1 ha
    exact hm.2.1 a v hv
theorem RngF.next (K : KeyT kt kv good) (h : RngF kv good w B r f left cnt) (ty : TypeId) :
    ((∀ a, left a = false) ∧ (Instr.next (.pointer (some ⟨r, 0, none⟩)) false ty).run Try.prog w = .ok (.tuple #[.bool false]) w) ∨
    ∃ a v w' cnt', good a ∧ left a = true ∧ f a = some v ∧ (Instr.next (.pointer (some ⟨r, 0, none⟩)) false ty).run Try.prog w = .ok (.tuple #[.bool true, kv a, v]) w' ∧
      (∃ left', (∀ b, left' b = true ↔ left b = true ∧ b ≠ a) ∧ RngF kv good w' B r f left' cnt') ∧ cnt' < cnt ∧ w.grownBy w' (some r) ∧ w'.heap.size = w.heap.size ∧ (Instr.entry (.pointer (some ⟨r, 0, none⟩))).run Try.prog w' = .ok (.tuple #[kv a, v]) w' := by
  classical
  have hne := h.ne
  obtain ⟨es, clock, since, seen, c0, hb, hm, hr, hold, rfl, hl1, hl2, hsc, hsk⟩ := h
  have hnd := born_nodup hm.2.2.2.1
  rcases run_next_at (P := Try.prog) w ty r B since c0 seen es clock hr hb hold hsc with ⟨h0, hrun⟩ | ⟨e, he, w1, hal, hrun⟩
  · refine Or.inl ⟨fun a => ?_, hrun⟩
    cases hk : left a
    · rfl
    · obtain ⟨x, hx, hxa⟩ := hl2 a hk
      rw [hl1 x hx a hxa, all_seen es seen h0 x hx] at hk
      cases hk
  · obtain ⟨hem, hes⟩ := mem_left he
    obtain ⟨a, ha, hka, hfa⟩ := hm.1 e hem
    have hr1 : w1.heap[r]? = some (.mapIter (some B) since seen c0) := by rcases hal with rfl | rfl <;> exact hr
    have hb1 : w1.heap[B]? = some (.map es clock) := by rcases hal with rfl | rfl <;> exact hb
    have hset := heap_set (o' := .mapIter (some B) since (seen.push e.born) clock) hr1
    have hb' : (setBlock w1 r (.mapIter (some B) since (seen.push e.born) clock)).heap[B]? = some (.map es clock) := (hset.2 B (fun e1 => hne e1.symm)).trans hb1
    have hen := run_entry_at (P := Try.prog) _ r B since seen es clock e hset.1 hb' hem hnd
    rw [hka] at hrun hen
    refine Or.inr ⟨a, e.val, _, _, ha, by rw [hl1 e hem a hka, hes]; rfl, hfa, hrun, ⟨fun b => left b && decide (b ≠ a), fun b => by simp, es, clock, since, seen.push e.born, clock, hb', hm, hset.1, hold, rfl, ?_, ?_, hsk, hsk⟩, left_shrinks es seen e he, ?_, ?_, hen⟩
    · intro x hx b hxb
      show (left b && decide (b ≠ a)) = _
      rw [hl1 x hx b hxb, contains_push]
      by_cases hbe : x.born = e.born
      · obtain rfl := born_inj hnd hx hem hbe
        obtain rfl : b = a := K.inj _ _ (hxb.symm.trans hka)
        simp
      · have h1 : (x.born == e.born) = false := by simp [hbe]
        have h2 : b ≠ a := by
          rintro rfl
          exact hbe (congrArg MapEntry.born (mem_uniq hm.2.2.1 hx hem (hxb.trans hka.symm)))
        simp [h1, h2]
    · intro b hb2
      simp only [Bool.and_eq_true] at hb2
      exact hl2 b hb2.1
    · rcases hal with rfl | rfl <;> exact ⟨rfl, rfl, rfl, by simp [setBlock], fun i _ hi => hset.2 i (fun e1 => hi (by rw [e1]))⟩
    · rcases hal with rfl | rfl <;> simp [setBlock]

/-- 'range m' at the operation. -/
theorem wpList_rangeF (K : KeyT kt kv good) (w : World) {ops : Array Oper} {rest : List Oper} {o : Oper} {act : Act} {Q : Exit → Act → World → Prop} (hg : o.guard = none) (m : Operand) (t : TypeId) (hop : o.op = Op.range t m)
    {e : TypeId} (ht : Try.prog.underlying t = some (.map kt e)) (hm : act.eval m = .map (some B)) (h : MapF kv good w B f)
    (hK : ∀ w' cnt, RngF kv good w' B w.heap.size f (fun a => (f a).isSome) cnt → Below w.heap.size w w' → w'.heap.size = w.heap.size + 1 → wpList Try.prog ops Q rest (act.put o.dst (.pointer (some ⟨w.heap.size, 0, none⟩))) w') : wpList Try.prog ops Q (o :: rest) act w := by
  refine wpList_plain hg fun K' hK' => ?_
  obtain ⟨w', hrun, ⟨cnt, h1⟩, h2, h3⟩ := h.range K ht
  unfold Oper.wp
  simp [execOp, hop, hm, hrun, Result.andThen]
  exact hK' _ _ (hK w' cnt h1 h2 h3)
/-- The step. -/
theorem wpList_nextF (K : KeyT kt kv good) (w : World) {ops : Array Oper} {rest : List Oper} {o : Oper} {act : Act} {Q : Exit → Act → World → Prop} (hg : o.guard = none) (it : Operand) (hop : o.op = Op.next it false)
    (hit : act.eval it = .pointer (some ⟨r, 0, none⟩)) (h : RngF kv good w B r f left cnt)
    (hDone : (∀ a, left a = false) → wpList Try.prog ops Q rest (act.put o.dst (.tuple #[.bool false])) w)
    (hMore : ∀ a v w' cnt' left', good a → left a = true → f a = some v → (∀ b, left' b = true ↔ left b = true ∧ b ≠ a) → RngF kv good w' B r f left' cnt' → cnt' < cnt → w.grownBy w' (some r) → w'.heap.size = w.heap.size →
      (Instr.entry (.pointer (some ⟨r, 0, none⟩))).run Try.prog w' = .ok (.tuple #[kv a, v]) w' → wpList Try.prog ops Q rest (act.put o.dst (.tuple #[.bool true, kv a, v])) w') : wpList Try.prog ops Q (o :: rest) act w := by
  refine wpList_plain hg fun K' hK' => ?_
  unfold Oper.wp
  rcases h.next K o.type with ⟨hl, hrun⟩ | ⟨a, v, w', cnt', ha, hla, hfa, hrun, ⟨left', hl', hrg⟩, hlt, hgr, hsz, hen⟩
  · simp [execOp, hop, hit, hrun, Result.andThen]
    exact hK' _ _ (hDone hl)
  · simp [execOp, hop, hit, hrun, Result.andThen]
    exact hK' _ _ (hMore a v w' cnt' left' ha hla hfa hl' hrg hlt hgr hsz hen)
end
end Go.Proofs.Ytdhajndmebnknaa
