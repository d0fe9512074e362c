/- Maps keyed by pointers. Printed by gen_vlk.py. -/
import Derived.Test.YtkamkjbllmgifaaMapR
import Derived.LaidEqlPtr
namespace Go.Proofs.Ytkamkjbllmgifaa
open Go.RowKit
open Go.ChangeMaps (setBlock heap_setBlock_same heap_setBlock_other)

/-- What the laws on a map ask of its keys in a world. -/
structure KeyW (w : World) (kt : TypeId) {κ : Type} (kv : κ → Value) (gd : κ → Prop) : Prop where
  inj : ∀ a b, kv a = kv b → a = b
  check : ∀ (em : Bool) a, gd a → (Instr.checkKey em 10000 kt (kv a)).run Try.prog w = .ok () w
  find : ∀ a, gd a → ∀ es : List MapEntry, (∀ e ∈ es, ∃ b, gd b ∧ e.key = kv b) →
    ((Instr.findKey kt (kv a) es).run Try.prog w = .ok none w ∧ ∀ e ∈ es, e.key ≠ kv a) ∨ ∃ j e, (Instr.findKey kt (kv a) es).run Try.prog w = .ok (some (j, e.val)) w ∧ es[j]? = some e ∧ e.key = kv a
  stays : ∀ a, gd a → (Instr.keyThatStays (kv a) (kv a)).run Try.prog w = .ok (kv a) w
section
variable {κ : Type} {kv : κ → Value} {good gd : κ → Prop} {w w' : World} {B : Nat} {f : κ → Option Value} {kt : TypeId}
theorem MapF.lookupW (K : KeyW w kt kv gd) (hfg : ∀ a v, f a = some v → gd a) (h : MapF kv good w B f) {t e : TypeId} (ht : Try.prog.underlying t = some (.map kt e)) {z : Value} (hz : (zeroValue e).run Try.prog w = .ok z w) (a : κ) (ha : gd a) (ok : Bool) :
    (Instr.lookup t (.map (some B)) (kv a) ok).run Try.prog w = .ok (if ok then .tuple #[(f a).getD z, .bool (f a).isSome] else (f a).getD z) w := by
  obtain ⟨es, c, hb, hf, hg, hd, _⟩ := h
  rcases K.find a ha es.toList (fun e he => by obtain ⟨b, h1, h2, h3⟩ := hf e he; exact ⟨b, hfg b _ h3, h2⟩) with ⟨h1, h2⟩ | ⟨j, e0, h1, h2, h3⟩
  · have hn : f a = none := by
      cases hfa : f a with
      | none => rfl
      | some v => obtain ⟨x, hx, hk⟩ := hg a v hfa; exact absurd hk (h2 x hx)
    cases ok <;> simp [Instr.lookup, run_underlying ht, MapKept.run_getObj_map hb, K.check _ a ha, h1, hz, hn, Result.andThen]
  · have he0 : e0 ∈ es.toList := List.mem_of_getElem? h2
    obtain ⟨b, _, hkb, hfb⟩ := hf e0 he0
    obtain rfl : b = a := K.inj _ _ (hkb.symm.trans h3)
    cases ok <;> simp [Instr.lookup, run_underlying ht, MapKept.run_getObj_map hb, K.check _ b ha, h1, hfb, Result.andThen]
theorem MapF.updateW [DecidableEq κ] (K : KeyW w kt kv gd) (hfg : ∀ a v, f a = some v → gd a) (h : MapF kv good w B f) {t e : TypeId} (ht : Try.prog.underlying t = some (.map kt e)) (a : κ) (ha : gd a) (hgo : good a) (v : Value) :
    ∃ w', (Instr.mapUpdate t (.map (some B)) (kv a) v).run Try.prog w = .ok () w' ∧ MapF kv good w' B (putF f a v) ∧ w.grownBy w' (some B) ∧ w'.heap.size = w.heap.size := by
  obtain ⟨es, c, hb, hf, hg, hd, hp, hc⟩ := h
  have hlt := (Array.getElem?_eq_some_iff.1 hb).1
  rcases K.find a ha es.toList (fun e he => by obtain ⟨b, h1, h2, h3⟩ := hf e he; exact ⟨b, hfg b _ h3, h2⟩) with ⟨h1, h2⟩ | ⟨j, e0, h1, h2, h3⟩
  · refine ⟨setBlock w B (.map (es.push ⟨kv a, v, c⟩) (c + 1)), ?_, ⟨es.push ⟨kv a, v, c⟩, c + 1, heap_setBlock_same hb _, ?_, ?_, ?_, ?_, ?_⟩, ⟨rfl, rfl, rfl, by simp [setBlock], fun i _ hi => heap_setBlock_other hb _ (fun e => hi (by rw [e]))⟩, by simp [setBlock]⟩
    · simp [Instr.mapUpdate, run_underlying ht, MapKept.run_getObj_map hb, K.check false a ha, h1, MapKept.run_setObj_map _ hb, Result.andThen, setBlock]
    · intro x hx
      simp only [Array.toList_push, List.mem_append, List.mem_singleton] at hx
      rcases hx with hx | rfl
      · obtain ⟨b, b1, b2, b3⟩ := hf x hx
        exact ⟨b, b1, b2, by rw [putF_other]; exact b3; rintro rfl; exact h2 x hx b2⟩
      · exact ⟨a, hgo, rfl, putF_same _ _ _⟩
    · intro b u hb'
      simp only [Array.toList_push, List.mem_append, List.mem_singleton]
      by_cases hba : b = a
      · subst hba; exact ⟨_, .inr rfl, rfl⟩
      · rw [putF_other _ _ hba] at hb'
        obtain ⟨x, hx, hk⟩ := hg b u hb'
        exact ⟨x, .inl hx, hk⟩
    · rw [Array.toList_push, List.pairwise_append]
      exact ⟨hd, by simp, by simpa using h2⟩
    · rw [Array.toList_push, List.pairwise_append]
      exact ⟨hp, by simp, by simpa using hc⟩
    · intro x hx
      simp only [Array.toList_push, List.mem_append, List.mem_singleton] at hx
      rcases hx with hx | rfl
      · have := hc x hx; omega
      · simp
  · have hj : es[j]? = some e0 := by simpa using h2
    have he0 : e0 ∈ es.toList := List.mem_of_getElem? h2
    have hjl : j < es.toList.length := (List.getElem?_eq_some_iff.1 h2).1
    have hlist : (es.modify j (fun e' => { e' with key := kv a, val := v })).toList = es.toList.set j { e0 with key := kv a, val := v } := by rw [Array.toList_modify, ChangeMaps.modify_eq_set _ _ _ _ h2]
    have who : ∀ x ∈ es.toList.set j { e0 with key := kv a, val := v }, x = { e0 with key := kv a, val := v } ∨ (x ∈ es.toList ∧ x.key ≠ kv a) := by
      intro x hx
      obtain ⟨i, hi, ex⟩ := List.getElem_of_mem hx
      rw [List.getElem_set] at ex
      split at ex
      · exact .inl ex.symm
      · rename_i hne
        have hi' : i < es.toList.length := by simpa using hi
        have hm : x ∈ es.toList := ex ▸ List.getElem_mem hi'
        refine .inr ⟨hm, fun hk => hne ?_⟩
        have e1 := mem_uniq hd hm he0 (hk.trans h3.symm)
        have hpw := List.pairwise_iff_getElem.1 hp
        have g2 : es.toList[j] = e0 := (List.getElem?_eq_some_iff.1 h2).2
        rw [e1] at ex
        rcases Nat.lt_trichotomy i j with q | q | q
        · have := hpw i j hi' hjl q; rw [ex, g2] at this; omega
        · exact q.symm
        · have := hpw j i hjl hi' q; rw [ex, g2] at this; omega
    refine ⟨setBlock w B (.map (es.modify j (fun e' => { e' with key := kv a, val := v })) c), ?_, ⟨_, c, heap_setBlock_same hb _, ?_, ?_, ?_, ?_, ?_⟩, ⟨rfl, rfl, rfl, by simp [setBlock], fun i _ hi => heap_setBlock_other hb _ (fun e => hi (by rw [e]))⟩, by simp [setBlock]⟩
    · simp [Instr.mapUpdate, run_underlying ht, MapKept.run_getObj_map hb, K.check false a ha, h1, hj, h3, K.stays a ha, MapKept.run_setObj_map _ hb, Result.andThen, setBlock]
    · intro x hx
      rw [hlist] at hx
      rcases who x hx with rfl | ⟨hx, hne⟩
      · exact ⟨a, hgo, rfl, putF_same _ _ _⟩
      · obtain ⟨b, b1, b2, b3⟩ := hf x hx
        exact ⟨b, b1, b2, by rw [putF_other]; exact b3; rintro rfl; exact hne b2⟩
    · intro b u hb'
      rw [hlist]
      by_cases hba : b = a
      · subst hba; exact ⟨{ e0 with key := kv b, val := v }, List.mem_iff_getElem.2 ⟨j, by simpa using hjl, by simp⟩, rfl⟩
      · rw [putF_other _ _ hba] at hb'
        obtain ⟨x, hx, hk⟩ := hg b u hb'
        obtain ⟨i, hi, ex⟩ := List.getElem_of_mem hx
        refine ⟨x, List.mem_iff_getElem.2 ⟨i, by simpa using hi, ?_⟩, hk⟩
        rw [List.getElem_set_ne]
        · exact ex
        · rintro rfl
          rw [(List.getElem?_eq_some_iff.1 h2).2] at ex
          subst ex
          exact hba (K.inj _ _ (hk.symm.trans h3))
    · rw [hlist]
      have : (es.toList.set j { e0 with key := kv a, val := v }).map (·.key) = es.toList.map (·.key) := by
        rw [List.map_set]
        have : (es.toList.map (·.key))[j]? = some (kv a) := by rw [List.getElem?_map, h2]; simp [h3]
        exact List.set_getElem?_self' this
      have hd' := (List.pairwise_map (f := fun e : MapEntry => e.key) (R := fun x y => x ≠ y)).2 hd
      rw [← this] at hd'
      exact List.pairwise_map.1 hd'
    · rw [hlist]
      have : (es.toList.set j { e0 with key := kv a, val := v }).map (·.born) = es.toList.map (·.born) := by
        rw [List.map_set]
        have : (es.toList.map (·.born))[j]? = some e0.born := by rw [List.getElem?_map, h2]; rfl
        exact List.set_getElem?_self' this
      have hp' := (List.pairwise_map (f := fun e : MapEntry => e.born) (R := fun x y => x < y)).2 hp
      rw [← this] at hp'
      exact List.pairwise_map.1 hp'
    · intro x hx
      rw [hlist] at hx
      rcases who x hx with rfl | ⟨hx, _⟩
      · exact hc e0 he0
      · exact hc x hx
/-- 'm[k]' at the operation. -/
theorem wpList_lookW (K : KeyW w kt kv gd) (hfg : ∀ a v, f a = some v → gd a) {ops : Array Oper} {rest : List Oper} {o : Oper} {act : Act} {Q : Exit → Act → World → Prop} (hg : o.guard = none) (m x : Operand) (t : TypeId) (ok : Bool) (hop : o.op = Op.lookup t m x ok)
    {e : TypeId} (ht : Try.prog.underlying t = some (.map kt e)) {z : Value} (hz : (zeroValue e).run Try.prog w = .ok z w) (hm : act.eval m = .map (some B)) (h : MapF kv good w B f) (a : κ) (ha : gd a) (hx : act.eval x = kv a)
    (hK : wpList Try.prog ops Q rest (act.put o.dst (if ok then .tuple #[(f a).getD z, .bool (f a).isSome] else (f a).getD z)) w) : wpList Try.prog ops Q (o :: rest) act w := by
  refine wpList_plain hg fun K' hK' => ?_
  unfold Oper.wp
  simp only [execOp, hop, hm, hx, h.lookupW K hfg ht hz a ha ok, Result.andThen, Sem.run_bind]
  exact hK' _ _ hK
/-- 'm[k] = v' at the operation. -/
theorem wpList_putW [DecidableEq κ] (K : KeyW w kt kv gd) (hfg : ∀ a v, f a = some v → gd a) {ops : Array Oper} {rest : List Oper} {o : Oper} {act : Act} {Q : Exit → Act → World → Prop} (hg : o.guard = none) (m x v : Operand) (t : TypeId) (hop : o.op = Op.mapUpdate t m x v)
    {e : TypeId} (ht : Try.prog.underlying t = some (.map kt e)) (hm : act.eval m = .map (some B)) (h : MapF kv good w B f) (a : κ) (ha : gd a) (hgo : good a) (hx : act.eval x = kv a)
    (hK : ∀ w', MapF kv good w' B (putF f a (act.eval v)) → w.grownBy w' (some B) → w'.heap.size = w.heap.size → wpList Try.prog ops Q rest (act.put o.dst undef) w') : wpList Try.prog ops Q (o :: rest) act w := by
  refine wpList_plain hg fun K' hK' => ?_
  obtain ⟨w', hrun, h1, h2, h3⟩ := h.updateW K hfg ht a ha hgo (act.eval v)
  unfold Oper.wp
  simp [execOp, hop, hm, hx, hrun, Result.andThen]
  exact hK' _ _ (hK w' h1 h2 h3)
end
def ptV (b : Nat) : Value := .pointer (some ⟨b, 0, none⟩)
theorem ptV_inj (a b : Nat) (h : ptV a = ptV b) : a = b := by simpa [ptV] using h
/-- A block of cells that is not marked. -/
def IsCel (w : World) (b : Nat) : Prop := ∃ cs t, w.heap[b]? = some (.cells cs t (0, 0))
theorem run_ptEq {w : World} {tp te : TypeId} {j : TypeInfo} {a b : Nat} (hp : Try.prog.underlying tp = some (.pointer te)) (hte : Try.prog.info? te = some j) (hsz : j.size ≠ 0) (ha : IsCel w a) (hb : IsCel w b) :
    (Op.equal tp (ptV a) (ptV b)).run Try.prog w = .ok (a == b) w := by
  by_cases e : a = b
  · subst e
    have h : ∀ d : Nat, (Op.equalIn (d + 1) tp (ptV a) (ptV a)).run Try.prog w = .ok true w := fun d => by
      simp [Op.equalIn, ptV, run_underlying hp, sizeOf, typeInfo, hte, run_sameAddr_same]
    simp [Op.equal, Op.maxDepth, h 9999]
  · obtain ⟨ca, ta, ha⟩ := ha
    obtain ⟨cb, tb, hb⟩ := hb
    have h : ∀ d : Nat, (Op.equalIn (d + 1) tp (ptV a) (ptV b)).run Try.prog w = .ok false w := fun d => by
      simp [Op.equalIn, ptV, run_underlying hp, sizeOf, typeInfo, hte, hsz, run_sameAddr_other w (a := ⟨a, 0, none⟩) (b := ⟨b, 0, none⟩) (fun h => e (congrArg Addr.block h)) ha hb]
    have : (a == b) = false := by simpa using e
    rw [this]
    simp [Op.equal, Op.maxDepth, h 9999]
theorem run_ptEql {w : World} {tp te : TypeId} {j : TypeInfo} {a b : Nat} (hp : Try.prog.underlying tp = some (.pointer te)) (hte : Try.prog.info? te = some j) (hsz : j.size ≠ 0) (ha : IsCel w a) (hb : IsCel w b) :
    (binOp .eql tp (.pointer (some ⟨a, 0, none⟩)) (.pointer (some ⟨b, 0, none⟩))).run Try.prog w = .ok (.bool (a == b)) w := by
  by_cases e : a = b
  · subst e
    rw [run_eql_ptr_same w ⟨a, 0, none⟩ hp hte]; simp
  · obtain ⟨ca, ta, ha⟩ := ha
    obtain ⟨cb, tb, hb⟩ := hb
    rw [run_eql_ptr_other w (a := ⟨a, 0, none⟩) (b := ⟨b, 0, none⟩) hp hte hsz (fun h => e (congrArg Addr.block h)) ha hb]
    have : (a == b) = false := by simpa using e
    rw [this]
theorem pt_find {w : World} {tp te : TypeId} {j : TypeInfo} {a : Nat} (hp : Try.prog.underlying tp = some (.pointer te)) (hte : Try.prog.info? te = some j) (hsz : j.size ≠ 0) (ha : IsCel w a) :
    ∀ (es : List MapEntry) (i : Nat), (∀ e ∈ es, ∃ b, IsCel w b ∧ e.key = ptV b) →
      ((Instr.findAsking tp (ptV a) es i).run Try.prog w = .ok none w ∧ ∀ e ∈ es, e.key ≠ ptV a) ∨
      ∃ j e, (Instr.findAsking tp (ptV a) es i).run Try.prog w = .ok (some (i + j, e.val)) w ∧ es[j]? = some e ∧ e.key = ptV a
  | [], i, _ => Or.inl ⟨by simp [Instr.findAsking], by simp⟩
  | e :: es, i, hall => by
    obtain ⟨b, hb, hk⟩ := hall e (by simp)
    have hr := run_ptEq hp hte hsz ha hb
    rw [← hk] at hr
    cases hab : (a == b)
    · rw [hab] at hr
      have hne : e.key ≠ ptV a := fun h => by
        rw [hk] at h
        have := ptV_inj _ _ h
        subst this
        simp at hab
      rcases pt_find hp hte hsz ha es (i + 1) (fun y hy => hall y (by simp [hy])) with ⟨h1, h2⟩ | ⟨j, e', h1, h2, h3⟩
      · left
        refine ⟨by simp [Instr.findAsking, hr, h1], fun y hy => ?_⟩
        rcases List.mem_cons.1 hy with rfl | hy
        · exact hne
        · exact h2 y hy
      · right
        exact ⟨j + 1, e', by simp [Instr.findAsking, hr, h1, Nat.add_assoc, Nat.add_comm 1 j], by simpa using h2, h3⟩
    · rw [hab] at hr
      right
      have : a = b := by simpa using hab
      exact ⟨0, e, by simp [Instr.findAsking, hr], rfl, by rw [hk, this]⟩
theorem valInfo : ∃ j, Try.prog.info? 68 = some j ∧ j.size ≠ 0 := by
  have h : (Try.prog.info? 68).map (fun j => j.size) = some 4 := by kernel_rfl
  obtain ⟨j, hj, e⟩ := Option.map_eq_some_iff.1 h
  exact ⟨j, hj, by omega⟩
set_option maxRecDepth 100000 in
theorem ptKW (w : World) : KeyW w 65 ptV (IsCel w) where
  inj := ptV_inj
  check em a _ := by
    have hu := Try.underlying65
    have h : ∀ n, (Instr.checkKey em (n + 1) 65 (ptV a)).run Try.prog w = .ok () w := fun n => by simp [Instr.checkKey, run_underlying hu, ptV]
    exact h 9999
  find a ha es hes := by
    have hu := Try.underlying65
    obtain ⟨j, hj, hz⟩ := valInfo
    cases es with
    | nil => exact .inl ⟨by simp [Instr.findKey, run_underlying hu, Instr.findNow], by simp⟩
    | cons e r =>
      have h := pt_find hu hj hz ha (e :: r) 0 hes
      have hn : Instr.findNow (.pointer 68) (ptV a) (e :: r) 0 = none := by
        obtain ⟨b, _, hk⟩ := hes e List.mem_cons_self
        simp [Instr.findNow, Instr.sameNow]
      have hf : (Instr.findKey 65 (ptV a) (e :: r)).run Try.prog w = (Instr.findAsking 65 (ptV a) (e :: r) 0).run Try.prog w := by
        simp [Instr.findKey, run_underlying hu, hn]
      rw [hf]
      rcases h with h | ⟨j, e', h1, h2, h3⟩
      · exact .inl h
      · exact .inr ⟨j, e', by simpa using h1, h2, h3⟩
  stays a _ := by
    have h : ∀ n, Instr.sameBits n (ptV a) (ptV a) = true := fun n => by cases n <;> simp [Instr.sameBits, ptV]
    unfold Instr.keyThatStays
    rw [h]
    rfl
end Go.Proofs.Ytkamkjbllmgifaa
