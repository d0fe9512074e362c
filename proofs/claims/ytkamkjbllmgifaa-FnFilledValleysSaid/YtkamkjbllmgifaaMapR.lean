/- Maps keyed by spots (and by other plain keys): what a look-up, a store and a range over one do. Ranging over a map keyed by spots. -/
import Derived.Test.YtkamkjbllmgifaaEq
import Derived.Maps.OwnOps
import Derived.Maps.RangeWalk
import Derived.DeepKeys4
namespace Go.Proofs.Ytkamkjbllmgifaa
open Go.RowKit
open Go.ChangeMaps (setBlock heap_setBlock_same heap_setBlock_other)

/-- What the laws on a map ask of its key's type. -/
structure KeyT (kt : TypeId) {κ : Type} (kv : κ → Value) (good : κ → Prop) : Prop where
  inj : ∀ a b, kv a = kv b → a = b
  check : ∀ (w : World) (em : Bool) a, good a → (Instr.checkKey em 10000 kt (kv a)).run Try.prog w = .ok () w
  find : ∀ (w : World) a, good a → ∀ es : List MapEntry, (∀ e ∈ es, ∃ b, good b ∧ e.key = kv b) →
    ((Instr.findKey kt (kv a) es).run Try.prog w = .ok none w ∧ ∀ e ∈ es, e.key ≠ kv a) ∨ ∃ j e, (Instr.findKey kt (kv a) es).run Try.prog w = .ok (some (j, e.val)) w ∧ es[j]? = some e ∧ e.key = kv a
  stays : ∀ (w : World) a, good a → (Instr.keyThatStays (kv a) (kv a)).run Try.prog w = .ok (kv a) w

theorem keyT_of {kt : TypeId} {κ : Type} {kv : κ → Value} {good : κ → Prop} (K : Maps.Keyed Try.prog kt) (hk : ∀ a, good a → ∃ l, keyOf Try.prog kt (kv a) = some l) (inj : ∀ a b, kv a = kv b → a = b) : KeyT kt kv good where
  inj := inj
  check w em a ha := by obtain ⟨l, hl⟩ := hk a ha; exact K.check w em hl
  find w a ha es hes := by
    obtain ⟨l, hl⟩ := hk a ha
    exact K.find w hl es (fun e he => by obtain ⟨b, hb, e1⟩ := hes e he; rw [e1]; exact hk b hb)
  stays w a ha := by obtain ⟨l, hl⟩ := hk a ha; exact K.stays w hl

def spV (s : Int × Int) : Value := .agg #[.int .i64 s.1, .int .i64 s.2]
def spOk (s : Int × Int) : Prop := (-1000 ≤ s.1 ∧ s.1 ≤ 1000) ∧ (-1000 ≤ s.2 ∧ s.2 ≤ 1000)
theorem spV_inj (a b : Int × Int) (h : spV a = spV b) : a = b := by
  obtain ⟨x, y⟩ := a
  obtain ⟨u, v⟩ := b
  simp [spV] at h
  exact Prod.ext h.1 h.2

theorem keyOf_two {P : Program} {k e : TypeId} {F1 F2 : Field} (hk : P.underlying k = some (.struct #[F1, F2])) (he : P.underlying e = some (.int .i64)) (t1 : F1.type = e) (t2 : F2.type = e) (o1 : F1.offset = 0) (o2 : F2.offset = 1)
    (n1 : (F1.name != "_") = true) (n2 : (F2.name != "_") = true) (ck : P.cellsOf k = 2) (ce : P.cellsOf e = 1) (kt : P.keyType k = true) (hm : ∃ m, P.types.size = m + 1) {a b : Int} (wa : (Lit.int .i64 a).wf = true) (wb : (Lit.int .i64 b).wf = true) :
    keyOf P k (.agg #[.int .i64 a, .int .i64 b]) = some (.string (keyBytes [.int .i64 a, .int .i64 b])) := by
  obtain ⟨m, hm⟩ := hm
  simp only [keyOf, hk, Value.formed, ck, Value.cells, hm, Program.keyLits, kt]
  simp [he, ce, wa, wb, t1, t2, o1, o2, n1, n2]

theorem laidOut' : laidOutB Try.prog = true := by kernel_rfl
theorem spotKeyed : Maps.Keyed Try.prog 39 := Maps.Keyed.of_law (deep_law_laid laidOut' (m := 2) (by omega) (of_decide_eq_true (by kernel_rfl)) (by kernel_rfl) (by rw [Try.underlying39]))
theorem types_pos : ∃ m, Try.prog.types.size = m + 1 := ⟨Try.prog.types.size - 1, by have : 0 < Try.prog.types.size := of_decide_eq_true (by kernel_rfl); omega⟩
theorem wf_i64' {a : Int} (h : -1000 ≤ a ∧ a ≤ 1000) : (Lit.int .i64 a).wf = true := WalkArith.wf_i64 (by omega)
theorem spot_key (s : Int × Int) (h : spOk s) : ∃ l, keyOf Try.prog 39 (spV s) = some l :=
  ⟨_, keyOf_two Try.underlying39 Try.underlying2 rfl rfl rfl rfl (by decide) (by decide) (by kernel_rfl) (by kernel_rfl) (by kernel_rfl) types_pos (wf_i64' h.1) (wf_i64' h.2)⟩
theorem spotK : KeyT 39 spV spOk := keyT_of spotKeyed spot_key spV_inj

theorem List.set_getElem?_self' {α : Type} {l : List α} {j : Nat} {a : α} (h : l[j]? = some a) : l.set j a = l := by
  obtain ⟨hj, rfl⟩ := List.getElem?_eq_some_iff.1 h
  exact List.set_getElem_self hj
/-- Block B is a map that holds at each key what f says. -/
def MapF {κ : Type} (kv : κ → Value) (good : κ → Prop) (w : World) (B : Nat) (f : κ → Option Value) : Prop :=
  ∃ es clock, w.heap[B]? = some (.map es clock) ∧ (∀ e ∈ es.toList, ∃ a, good a ∧ e.key = kv a ∧ f a = some e.val) ∧ (∀ a v, f a = some v → ∃ e ∈ es.toList, e.key = kv a) ∧
    es.toList.Pairwise (fun x y => x.key ≠ y.key) ∧ es.toList.Pairwise (fun x y => x.born < y.born) ∧ ∀ e ∈ es.toList, e.born < clock

section
variable {κ : Type} {kv : κ → Value} {good : κ → Prop} {w w' : World} {B : Nat} {f : κ → Option Value} {kt : TypeId}
theorem MapF.lt (h : MapF kv good w B f) : B < w.heap.size := by
  obtain ⟨es, c, hb, _⟩ := h
  exact (Array.getElem?_eq_some_iff.1 hb).1
theorem MapF.of_block (h : MapF kv good w B f) (hb : w'.heap[B]? = w.heap[B]?) : MapF kv good w' B f := by
  obtain ⟨es, c, h1, h2⟩ := h
  exact ⟨es, c, hb.trans h1, h2⟩
theorem MapF.ext (h : MapF kv good w B f) (hb : Below w.heap.size w w') : MapF kv good w' B f := h.of_block (hb.block B h.lt)
theorem MapF.under {n : Nat} (h : MapF kv good w B f) (hb : Below n w w') (hn : B < n) : MapF kv good w' B f := h.of_block (hb.block B hn)
theorem MapF.drewN (h : MapF kv good w B f) (k : Nat) : MapF kv good (w.drewN k) B f := h
theorem MapF.made (w : World) : MapF kv good (w.alloc (.map #[] 0)) w.heap.size (fun _ => none) :=
  ⟨#[], 0, (MapKept.heap_alloc w _).1, by simp, by simp, by simp, by simp, by simp⟩

theorem mem_uniq {l : List MapEntry} (h : l.Pairwise (fun x y => x.key ≠ y.key)) {x y : MapEntry} (hx : x ∈ l) (hy : y ∈ l) (e : x.key = y.key) : x = y := by
  induction l with
  | nil => cases hx
  | cons z r ih =>
    obtain ⟨h1, h2⟩ := List.pairwise_cons.1 h
    rcases List.mem_cons.1 hx with rfl | hx' <;> rcases List.mem_cons.1 hy with rfl | hy'
    · rfl
    · exact absurd e (h1 y hy')
    · exact absurd e.symm (h1 x hx')
    · exact ih h2 hx' hy'

theorem MapF.lookup (K : KeyT kt kv good) (h : MapF kv good w B f) {t e : TypeId} (ht : Try.prog.underlying t = some (.map kt e)) {z : Value} (hz : (zeroValue e).run Try.prog w = .ok z w) (a : κ) (ha : good a) (ok : Bool) :
    (Instr.lookup t (.map (some B)) (kv a) ok).run Try.prog w = .ok (if ok then .tuple #[(f a).getD z, .bool (f a).isSome] else (f a).getD z) w := by
  obtain ⟨es, c, hb, hf, hg, hd, _⟩ := h
  rcases K.find w a ha es.toList (fun e he => by obtain ⟨b, h1, h2, _⟩ := hf e he; exact ⟨b, h1, h2⟩) with ⟨h1, h2⟩ | ⟨j, e0, h1, h2, h3⟩
  · have hn : f a = none := by
      cases hfa : f a with
      | none => rfl
      | some v => obtain ⟨x, hx, hk⟩ := hg a v hfa; exact absurd hk (h2 x hx)
    cases ok <;> simp [Instr.lookup, run_underlying ht, MapKept.run_getObj_map hb, K.check w _ a ha, h1, hz, hn, Result.andThen]
  · have he0 : e0 ∈ es.toList := List.mem_of_getElem? h2
    obtain ⟨b, _, hkb, hfb⟩ := hf e0 he0
    obtain rfl : b = a := K.inj _ _ (hkb.symm.trans h3)
    cases ok <;> simp [Instr.lookup, run_underlying ht, MapKept.run_getObj_map hb, K.check w _ b ha, h1, hfb, Result.andThen]

/-- What a store leaves. -/
def putF [DecidableEq κ] (f : κ → Option Value) (a : κ) (v : Value) : κ → Option Value := fun b => if b = a then some v else f b
theorem putF_same [DecidableEq κ] (f : κ → Option Value) (a : κ) (v : Value) : putF f a v a = some v := by simp [putF]
theorem putF_other [DecidableEq κ] (f : κ → Option Value) {a b : κ} (v : Value) (h : b ≠ a) : putF f a v b = f b := by simp [putF, h]

theorem MapF.update [DecidableEq κ] (K : KeyT kt kv good) (h : MapF kv good w B f) {t e : TypeId} (ht : Try.prog.underlying t = some (.map kt e)) (a : κ) (ha : good a) (v : Value) :
    ∃ w', (Instr.mapUpdate t (.map (some B)) (kv a) v).run Try.prog w = .ok () w' ∧ MapF kv good w' B (putF f a v) ∧ w.grownBy w' (some B) ∧ w'.heap.size = w.heap.size := by
  obtain ⟨es, c, hb, hf, hg, hd, hp, hc⟩ := h
  have hlt := (Array.getElem?_eq_some_iff.1 hb).1
  rcases K.find w a ha es.toList (fun e he => by obtain ⟨b, h1, h2, _⟩ := hf e he; exact ⟨b, h1, h2⟩) with ⟨h1, h2⟩ | ⟨j, e0, h1, h2, h3⟩
  · refine ⟨setBlock w B (.map (es.push ⟨kv a, v, c⟩) (c + 1)), ?_, ⟨es.push ⟨kv a, v, c⟩, c + 1, heap_setBlock_same hb _, ?_, ?_, ?_, ?_, ?_⟩, ⟨rfl, rfl, rfl, by simp [setBlock], fun i _ hi => heap_setBlock_other hb _ (fun e => hi (by rw [e]))⟩, by simp [setBlock]⟩
    · simp [Instr.mapUpdate, run_underlying ht, MapKept.run_getObj_map hb, K.check w false a ha, h1, MapKept.run_setObj_map _ hb, Result.andThen, setBlock]
    · intro x hx
      simp only [Array.toList_push, List.mem_append, List.mem_singleton] at hx
      rcases hx with hx | rfl
      · obtain ⟨b, b1, b2, b3⟩ := hf x hx
        exact ⟨b, b1, b2, by rw [putF_other]; exact b3; rintro rfl; exact h2 x hx b2⟩
      · exact ⟨a, ha, rfl, putF_same _ _ _⟩
    · intro b u hb'
      simp only [Array.toList_push, List.mem_append, List.mem_singleton]
      by_cases hba : b = a
      · subst hba; exact ⟨_, .inr rfl, rfl⟩
      · rw [putF_other _ _ hba] at hb'
        obtain ⟨x, hx, hk⟩ := hg b u hb'
        exact ⟨x, .inl hx, hk⟩
    · rw [Array.toList_push, List.pairwise_append]
      exact ⟨hd, by simp, by simpa using h2⟩
    · rw [Array.toList_push, List.pairwise_append]
      exact ⟨hp, by simp, by simpa using hc⟩
    · intro x hx
      simp only [Array.toList_push, List.mem_append, List.mem_singleton] at hx
      rcases hx with hx | rfl
      · have := hc x hx; omega
      · simp
  · have hj : es[j]? = some e0 := by simpa using h2
    have he0 : e0 ∈ es.toList := List.mem_of_getElem? h2
    have hjl : j < es.toList.length := (List.getElem?_eq_some_iff.1 h2).1
    have hlist : (es.modify j (fun e' => { e' with key := kv a, val := v })).toList = es.toList.set j { e0 with key := kv a, val := v } := by rw [Array.toList_modify, ChangeMaps.modify_eq_set _ _ _ _ h2]
    have who : ∀ x ∈ es.toList.set j { e0 with key := kv a, val := v }, x = { e0 with key := kv a, val := v } ∨ (x ∈ es.toList ∧ x.key ≠ kv a) := by
      intro x hx
      obtain ⟨i, hi, ex⟩ := List.getElem_of_mem hx
      rw [List.getElem_set] at ex
      split at ex
      · exact .inl ex.symm
      · rename_i hne
        have hi' : i < es.toList.length := by simpa using hi
        have hm : x ∈ es.toList := ex ▸ List.getElem_mem hi'
        refine .inr ⟨hm, fun hk => hne ?_⟩
        have e1 := mem_uniq hd hm he0 (hk.trans h3.symm)
        have hpw := List.pairwise_iff_getElem.1 hp
        have g2 : es.toList[j] = e0 := (List.getElem?_eq_some_iff.1 h2).2
        rw [e1] at ex
        rcases Nat.lt_trichotomy i j with q | q | q
        · have := hpw i j hi' hjl q; rw [ex, g2] at this; omega
        · exact q.symm
        · have := hpw j i hjl hi' q; rw [ex, g2] at this; omega
    refine ⟨setBlock w B (.map (es.modify j (fun e' => { e' with key := kv a, val := v })) c), ?_, ⟨_, c, heap_setBlock_same hb _, ?_, ?_, ?_, ?_, ?_⟩, ⟨rfl, rfl, rfl, by simp [setBlock], fun i _ hi => heap_setBlock_other hb _ (fun e => hi (by rw [e]))⟩, by simp [setBlock]⟩
    · simp [Instr.mapUpdate, run_underlying ht, MapKept.run_getObj_map hb, K.check w false a ha, h1, hj, h3, K.stays w a ha, MapKept.run_setObj_map _ hb, Result.andThen, setBlock]
    · intro x hx
      rw [hlist] at hx
      rcases who x hx with rfl | ⟨hx, hne⟩
      · exact ⟨a, ha, rfl, putF_same _ _ _⟩
      · obtain ⟨b, b1, b2, b3⟩ := hf x hx
        exact ⟨b, b1, b2, by rw [putF_other]; exact b3; rintro rfl; exact hne b2⟩
    · intro b u hb'
      rw [hlist]
      by_cases hba : b = a
      · subst hba; exact ⟨{ e0 with key := kv b, val := v }, List.mem_iff_getElem.2 ⟨j, by simpa using hjl, by simp⟩, rfl⟩
      · rw [putF_other _ _ hba] at hb'
        obtain ⟨x, hx, hk⟩ := hg b u hb'
        obtain ⟨i, hi, ex⟩ := List.getElem_of_mem hx
        refine ⟨x, List.mem_iff_getElem.2 ⟨i, by simpa using hi, ?_⟩, hk⟩
        rw [List.getElem_set_ne]
        · exact ex
        · rintro rfl
          rw [(List.getElem?_eq_some_iff.1 h2).2] at ex
          subst ex
          exact hba (K.inj _ _ (hk.symm.trans h3))
    · rw [hlist]
      have : (es.toList.set j { e0 with key := kv a, val := v }).map (·.key) = es.toList.map (·.key) := by
        rw [List.map_set]
        have : (es.toList.map (·.key))[j]? = some (kv a) := by rw [List.getElem?_map, h2]; simp [h3]
        exact List.set_getElem?_self' this
      have hd' := (List.pairwise_map (f := fun e : MapEntry => e.key) (R := fun x y => x ≠ y)).2 hd
      rw [← this] at hd'
      exact List.pairwise_map.1 hd'
    · rw [hlist]
      have : (es.toList.set j { e0 with key := kv a, val := v }).map (·.born) = es.toList.map (·.born) := by
        rw [List.map_set]
        have : (es.toList.map (·.born))[j]? = some e0.born := by rw [List.getElem?_map, h2]; rfl
        exact List.set_getElem?_self' this
      have hp' := (List.pairwise_map (f := fun e : MapEntry => e.born) (R := fun x y => x < y)).2 hp
      rw [← this] at hp'
      exact List.pairwise_map.1 hp'
    · intro x hx
      rw [hlist] at hx
      rcases who x hx with rfl | ⟨hx, _⟩
      · exact hc e0 he0
      · exact hc x hx

/-- 'm[k]' at the operation. -/
theorem wpList_lookF (K : KeyT kt kv good) (w : World) {ops : Array Oper} {rest : List Oper} {o : Oper} {act : Act} {Q : Exit → Act → World → Prop} (hg : o.guard = none) (m x : Operand) (t : TypeId) (ok : Bool) (hop : o.op = Op.lookup t m x ok)
    {e : TypeId} (ht : Try.prog.underlying t = some (.map kt e)) {z : Value} (hz : (zeroValue e).run Try.prog w = .ok z w) (hm : act.eval m = .map (some B)) (h : MapF kv good w B f) (a : κ) (ha : good a) (hx : act.eval x = kv a)
    (hK : wpList Try.prog ops Q rest (act.put o.dst (if ok then .tuple #[(f a).getD z, .bool (f a).isSome] else (f a).getD z)) w) : wpList Try.prog ops Q (o :: rest) act w := by
  refine wpList_plain hg fun K' hK' => ?_
  unfold Oper.wp
  simp only [execOp, hop, hm, hx, h.lookup K ht hz a ha ok, Result.andThen, Sem.run_bind]
  exact hK' _ _ hK

/-- 'm[k] = v' at the operation. -/
theorem wpList_putF [DecidableEq κ] (K : KeyT kt kv good) (w : World) {ops : Array Oper} {rest : List Oper} {o : Oper} {act : Act} {Q : Exit → Act → World → Prop} (hg : o.guard = none) (m x v : Operand) (t : TypeId) (hop : o.op = Op.mapUpdate t m x v)
    {e : TypeId} (ht : Try.prog.underlying t = some (.map kt e)) (hm : act.eval m = .map (some B)) (h : MapF kv good w B f) (a : κ) (ha : good a) (hx : act.eval x = kv a)
    (hK : ∀ w', MapF kv good w' B (putF f a (act.eval v)) → w.grownBy w' (some B) → w'.heap.size = w.heap.size → wpList Try.prog ops Q rest (act.put o.dst undef) w') : wpList Try.prog ops Q (o :: rest) act w := by
  refine wpList_plain hg fun K' hK' => ?_
  obtain ⟨w', hrun, h1, h2, h3⟩ := h.update K ht a ha (act.eval v)
  unfold Oper.wp
  simp [execOp, hop, hm, hx, hrun, Result.andThen]
  exact hK' _ _ (hK w' h1 h2 h3)
/-- An entry of a map that is written out. -/
theorem wpList_insF [DecidableEq κ] (K : KeyT kt kv good) (w : World) {ops : Array Oper} {rest : List Oper} {o : Oper} {act : Act} {Q : Exit → Act → World → Prop} (hg : o.guard = none) (m x v : Operand) (t : TypeId) (hop : o.op = Op.insert t m x v)
    {e : TypeId} (ht : Try.prog.underlying t = some (.map kt e)) (hm : act.eval m = .map (some B)) (h : MapF kv good w B f) (a : κ) (ha : good a) (hx : act.eval x = kv a)
    (hK : ∀ w', MapF kv good w' B (putF f a (act.eval v)) → w.grownBy w' (some B) → w'.heap.size = w.heap.size → wpList Try.prog ops Q rest (act.put o.dst undef) w') : wpList Try.prog ops Q (o :: rest) act w := by
  refine wpList_plain hg fun K' hK' => ?_
  obtain ⟨w', hrun, h1, h2, h3⟩ := h.update K ht a ha (act.eval v)
  unfold Oper.wp
  simp [execOp, hop, hm, hx, hrun, Result.andThen]
  exact hK' _ _ (hK w' h1 h2 h3)
end
end Go.Proofs.Ytkamkjbllmgifaa

namespace Go.Proofs.Ytkamkjbllmgifaa
open Go.RowKit
open Go.ChangeMaps (setBlock)
open Go.MapKept (heap_set)

/-- A loop over the map B, at the iterator r: which keys are still to come. -/
def RngF {κ : Type} (kv : κ → Value) (good : κ → Prop) (w : World) (B r : Nat) (f : κ → Option Value) (left : κ → Bool) (cnt : Nat) : Prop :=
  ∃ es clock since seen c0, w.heap[B]? = some (.map es clock) ∧ ((∀ e ∈ es.toList, ∃ a, good a ∧ e.key = kv a ∧ f a = some e.val) ∧ (∀ a v, f a = some v → ∃ e ∈ es.toList, e.key = kv a) ∧
    es.toList.Pairwise (fun x y => x.key ≠ y.key) ∧ es.toList.Pairwise (fun x y => x.born < y.born) ∧ ∀ e ∈ es.toList, e.born < clock) ∧
    w.heap[r]? = some (.mapIter (some B) since seen c0) ∧ (∀ x ∈ es.toList, x.born < since) ∧ (leftOf es seen).size = cnt ∧
    (∀ x ∈ es.toList, ∀ a, x.key = kv a → left a = !seen.contains x.born) ∧ (∀ a, left a = true → ∃ x ∈ es.toList, x.key = kv a) ∧ since ≤ c0 ∧ since ≤ clock

section
variable {κ : Type} {kv : κ → Value} {good : κ → Prop} {w w' : World} {B r : Nat} {f : κ → Option Value} {left : κ → Bool} {cnt : Nat} {kt : TypeId}
theorem RngF.map (h : RngF kv good w B r f left cnt) : MapF kv good w B f := by
  obtain ⟨es, clock, _, _, _, hb, hm, _⟩ := h
  exact ⟨es, clock, hb, hm⟩
theorem RngF.lt (h : RngF kv good w B r f left cnt) : r < w.heap.size := by
  obtain ⟨es, clock, since, seen, c0, _, _, hr, _⟩ := h
  exact (Array.getElem?_eq_some_iff.1 hr).1
theorem RngF.of_blocks (h : RngF kv good w B r f left cnt) (hb : w'.heap[B]? = w.heap[B]?) (hr : w'.heap[r]? = w.heap[r]?) : RngF kv good w' B r f left cnt := by
  obtain ⟨es, clock, since, seen, c0, h1, h2, h3, h4⟩ := h
  exact ⟨es, clock, since, seen, c0, hb.trans h1, h2, hr.trans h3, h4⟩
theorem RngF.ext (h : RngF kv good w B r f left cnt) (hb : Below w.heap.size w w') : RngF kv good w' B r f left cnt := h.of_blocks (hb.block B h.map.lt) (hb.block r h.lt)
theorem RngF.kept (h : RngF kv good w B r f left cnt) {row : Option Nat} (hb : w.grownBy w' row) (h1 : some B ≠ row) (h2 : some r ≠ row) : RngF kv good w' B r f left cnt := h.of_blocks (hb.block B h.map.lt h1) (hb.block r h.lt h2)
theorem RngF.ne (h : RngF kv good w B r f left cnt) : r ≠ B := by
  obtain ⟨es, clock, since, seen, c0, hb, _, hr, _⟩ := h
  intro e
  rw [e, hb] at hr
  cases hr
theorem born_nodup {l : List MapEntry} (h : l.Pairwise fun x y => x.born < y.born) : (l.map (·.born)).Nodup := by
  rw [List.Nodup, List.pairwise_map]
  exact h.imp (fun h e => by omega)
theorem MapF.range (K : KeyT kt kv good) (h : MapF kv good w B f) {t e : TypeId} (ht : Try.prog.underlying t = some (.map kt e)) :
    ∃ w', (Instr.range t (.map (some B))).run Try.prog w = .ok (.pointer (some ⟨w.heap.size, 0, none⟩)) w' ∧ (∃ cnt, RngF kv good w' B w.heap.size f (fun a => (f a).isSome) cnt) ∧ Below w.heap.size w w' ∧ w'.heap.size = w.heap.size + 1 := by
  have hlt := h.lt
  obtain ⟨es, clock, hb, hm⟩ := h
  refine ⟨_, run_range_map w t kt e B es clock ht hb, ⟨_, es, clock, clock, #[], clock, ((MapKept.heap_alloc w _).2 B hlt).trans hb, hm, (MapKept.heap_alloc w _).1, hm.2.2.2.2, rfl, ?_, ?_, Nat.le_refl _, Nat.le_refl _⟩, Ext.more (Ext.refl _) _, by simp⟩
  · intro x hx a hxa
    obtain ⟨b, _, h1, h2⟩ := hm.1 x hx
    obtain rfl : b = a := K.inj _ _ (h1.symm.trans hxa)
    simp [h2]
  · intro a ha
    obtain ⟨v, hv⟩ := Option.isSome_iff_exists.1 ha
    exact hm.2.1 a v hv
theorem RngF.next (K : KeyT kt kv good) (h : RngF kv good w B r f left cnt) (ty : TypeId) :
    ((∀ a, left a = false) ∧ (Instr.next (.pointer (some ⟨r, 0, none⟩)) false ty).run Try.prog w = .ok (.tuple #[.bool false]) w) ∨
    ∃ a v w' cnt', good a ∧ left a = true ∧ f a = some v ∧ (Instr.next (.pointer (some ⟨r, 0, none⟩)) false ty).run Try.prog w = .ok (.tuple #[.bool true, kv a, v]) w' ∧
      (∃ left', (∀ b, left' b = true ↔ left b = true ∧ b ≠ a) ∧ RngF kv good w' B r f left' cnt') ∧ cnt' < cnt ∧ w.grownBy w' (some r) ∧ w'.heap.size = w.heap.size ∧ (Instr.entry (.pointer (some ⟨r, 0, none⟩))).run Try.prog w' = .ok (.tuple #[kv a, v]) w' := by
  classical
  have hne := h.ne
  obtain ⟨es, clock, since, seen, c0, hb, hm, hr, hold, rfl, hl1, hl2, hsc, hsk⟩ := h
  have hnd := born_nodup hm.2.2.2.1
  rcases run_next_at (P := Try.prog) w ty r B since c0 seen es clock hr hb hold hsc with ⟨h0, hrun⟩ | ⟨e, he, w1, hal, hrun⟩
  · refine Or.inl ⟨fun a => ?_, hrun⟩
    cases hk : left a
    · rfl
    · obtain ⟨x, hx, hxa⟩ := hl2 a hk
      rw [hl1 x hx a hxa, all_seen es seen h0 x hx] at hk
      cases hk
  · obtain ⟨hem, hes⟩ := mem_left he
    obtain ⟨a, ha, hka, hfa⟩ := hm.1 e hem
    have hr1 : w1.heap[r]? = some (.mapIter (some B) since seen c0) := by rcases hal with rfl | rfl <;> exact hr
    have hb1 : w1.heap[B]? = some (.map es clock) := by rcases hal with rfl | rfl <;> exact hb
    have hset := heap_set (o' := .mapIter (some B) since (seen.push e.born) clock) hr1
    have hb' : (setBlock w1 r (.mapIter (some B) since (seen.push e.born) clock)).heap[B]? = some (.map es clock) := (hset.2 B (fun e1 => hne e1.symm)).trans hb1
    have hen := run_entry_at (P := Try.prog) _ r B since seen es clock e hset.1 hb' hem hnd
    rw [hka] at hrun hen
    refine Or.inr ⟨a, e.val, _, _, ha, by rw [hl1 e hem a hka, hes]; rfl, hfa, hrun, ⟨fun b => left b && decide (b ≠ a), fun b => by simp, es, clock, since, seen.push e.born, clock, hb', hm, hset.1, hold, rfl, ?_, ?_, hsk, hsk⟩, left_shrinks es seen e he, ?_, ?_, hen⟩
    · intro x hx b hxb
      show (left b && decide (b ≠ a)) = _
      rw [hl1 x hx b hxb, contains_push]
      by_cases hbe : x.born = e.born
      · obtain rfl := born_inj hnd hx hem hbe
        obtain rfl : b = a := K.inj _ _ (hxb.symm.trans hka)
        simp
      · have h1 : (x.born == e.born) = false := by simp [hbe]
        have h2 : b ≠ a := by
          rintro rfl
          exact hbe (congrArg MapEntry.born (mem_uniq hm.2.2.1 hx hem (hxb.trans hka.symm)))
        simp [h1, h2]
    · intro b hb2
      simp only [Bool.and_eq_true] at hb2
      exact hl2 b hb2.1
    · rcases hal with rfl | rfl <;> exact ⟨rfl, rfl, rfl, by simp [setBlock], fun i _ hi => hset.2 i (fun e1 => hi (by rw [e1]))⟩
    · rcases hal with rfl | rfl <;> simp [setBlock]

/-- 'range m' at the operation. -/
theorem wpList_rangeF (K : KeyT kt kv good) (w : World) {ops : Array Oper} {rest : List Oper} {o : Oper} {act : Act} {Q : Exit → Act → World → Prop} (hg : o.guard = none) (m : Operand) (t : TypeId) (hop : o.op = Op.range t m)
    {e : TypeId} (ht : Try.prog.underlying t = some (.map kt e)) (hm : act.eval m = .map (some B)) (h : MapF kv good w B f)
    (hK : ∀ w' cnt, RngF kv good w' B w.heap.size f (fun a => (f a).isSome) cnt → Below w.heap.size w w' → w'.heap.size = w.heap.size + 1 → wpList Try.prog ops Q rest (act.put o.dst (.pointer (some ⟨w.heap.size, 0, none⟩))) w') : wpList Try.prog ops Q (o :: rest) act w := by
  refine wpList_plain hg fun K' hK' => ?_
  obtain ⟨w', hrun, ⟨cnt, h1⟩, h2, h3⟩ := h.range K ht
  unfold Oper.wp
  simp [execOp, hop, hm, hrun, Result.andThen]
  exact hK' _ _ (hK w' cnt h1 h2 h3)
/-- The step. -/
theorem wpList_nextF (K : KeyT kt kv good) (w : World) {ops : Array Oper} {rest : List Oper} {o : Oper} {act : Act} {Q : Exit → Act → World → Prop} (hg : o.guard = none) (it : Operand) (hop : o.op = Op.next it false)
    (hit : act.eval it = .pointer (some ⟨r, 0, none⟩)) (h : RngF kv good w B r f left cnt)
    (hDone : (∀ a, left a = false) → wpList Try.prog ops Q rest (act.put o.dst (.tuple #[.bool false])) w)
    (hMore : ∀ a v w' cnt' left', good a → left a = true → f a = some v → (∀ b, left' b = true ↔ left b = true ∧ b ≠ a) → RngF kv good w' B r f left' cnt' → cnt' < cnt → w.grownBy w' (some r) → w'.heap.size = w.heap.size →
      (Instr.entry (.pointer (some ⟨r, 0, none⟩))).run Try.prog w' = .ok (.tuple #[kv a, v]) w' → wpList Try.prog ops Q rest (act.put o.dst (.tuple #[.bool true, kv a, v])) w') : wpList Try.prog ops Q (o :: rest) act w := by
  refine wpList_plain hg fun K' hK' => ?_
  unfold Oper.wp
  rcases h.next K o.type with ⟨hl, hrun⟩ | ⟨a, v, w', cnt', ha, hla, hfa, hrun, ⟨left', hl', hrg⟩, hlt, hgr, hsz, hen⟩
  · simp [execOp, hop, hit, hrun, Result.andThen]
    exact hK' _ _ (hDone hl)
  · simp [execOp, hop, hit, hrun, Result.andThen]
    exact hK' _ _ (hMore a v w' cnt' left' ha hla hfa hl' hrg hlt hgr hsz hen)
end
end Go.Proofs.Ytkamkjbllmgifaa
