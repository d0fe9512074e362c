/- Valleys: how the reference holds them in memory. -/
import Derived.Test.YtkamkjbllmgifaaVlP
import Derived.Deep.AppendLies
namespace Go.Proofs.Ytkamkjbllmgifaa
open Go.RowKit
open Vl

/-- Appending some elements that lie somewhere to a row of a call's own. -/
theorem step_appM {T e : TypeId} {z : Value} {size bytes : Nat} (E : ElemT T e z size bytes) {w : World} {ops : Array Oper} {o : Oper} {a : Act} {K : Act → World → Prop} {Q : Exit → Act → World → Prop} {F : Prop} (hgd : o.guard = none) (s x : Operand)
    (ho : o.op = .call { callee := .builtin .append, args := #[s, x], argTypes := #[T, T] })
    (base : Nat) (v : Value) (n : Nat) (xs : List Value) (hs : a.eval s = v) (hown : w.ownsRow base e size v n xs)
    (ad : Addr) (m c : Nat) (news : List Value) (hx : a.eval x = .slice (some ad) m c) (hl : news.length = m * size) (hnews : ∀ j u, news[j]? = some u → w.cell? (ad.add j) = some u) (h1 : ∀ u ∈ news, u.oneCell' = true)
    (hm : 0 < m) (N : Nat) (ys : List Value) (hN : n + m = N) (hys : xs ++ news = ys) (hn : N ≤ 1000000000) (hbase : base ≤ w.heap.size)
    (h : ∀ g cap w', w'.ownsRow base e size (.slice (some ⟨g, 0, none⟩) N cap) N ys → w.grownBy w' v.ownBlock → (v.ownBlock = some g ∨ g = w.heap.size) → g < w'.heap.size → K (a.put o.dst (.slice (some ⟨g, 0, none⟩) N cap)) w') :
    if Region.wanted o (yielded ops a.tmps) = true then Oper.wp Try.prog o a w K Q else F := by
  subst hN
  subst hys
  obtain ⟨i0, hi, hz0, hz1, hz2⟩ := info_parts E.info
  have hsm := E.small
  refine step_append_lies w hgd s x T ho base e i0 z size bytes E.under hi hz0 hz1 hz2 E.cells E.pos v n xs hs hown ad m c news hx hl hnews h1 hm (by unfold maxLen; omega) ?_ hbase _ rfl h
  have : (n + m) * bytes ≤ 1000000000 * 64 := Nat.mul_le_mul hn hsm
  omega

def row4 (n : Nat) (f : Nat → Nat → Value) : List Value := (List.range (n * 4)).map fun i => f (i / 4) (i % 4)
theorem row4_len (n : Nat) (f : Nat → Nat → Value) : (row4 n f).length = n * 4 := by simp [row4]
theorem row4_get {n : Nat} (f : Nat → Nat → Value) {v k : Nat} (hv : v < n) (hk : k < 4) : (row4 n f)[v * 4 + k]? = some (f v k) := by
  unfold row4
  rw [List.getElem?_map, List.getElem?_range (by omega)]
  simp only [Option.map_some]
  rw [show (v * 4 + k) / 4 = v by omega, show (v * 4 + k) % 4 = k by omega]
theorem row4_congr {n : Nat} {f g : Nat → Nat → Value} (h : ∀ v, v < n → ∀ k, k < 4 → f v k = g v k) : row4 n f = row4 n g := by
  unfold row4
  refine List.map_congr_left fun i hi => ?_
  rw [List.mem_range] at hi
  exact h _ (by omega) _ (by omega)
theorem row4_set {n : Nat} (f : Nat → Nat → Value) {v k : Nat} (_hv : v < n) (hk : k < 4) (u : Value) : (row4 n f).set (v * 4 + k) u = row4 n fun a b => if a = v ∧ b = k then u else f a b := by
  refine List.ext_getElem? fun i => ?_
  by_cases hi : i < n * 4
  · have e : i = i / 4 * 4 + i % 4 := by omega
    rw [e, row4_get _ (by omega) (by omega)]
    by_cases c : i / 4 = v ∧ i % 4 = k
    · rw [if_pos c, c.1, c.2, List.getElem?_set_self (by rw [row4_len]; omega)]
    · rw [if_neg c, List.getElem?_set_ne (by omega), row4_get _ (by omega) (by omega)]
  · rw [List.getElem?_eq_none (by rw [List.length_set, row4_len]; omega), List.getElem?_eq_none (by rw [row4_len]; omega)]
theorem row4_succ (n : Nat) (f : Nat → Nat → Value) : row4 (n + 1) f = row4 n f ++ [f n 0, f n 1, f n 2, f n 3] := by
  unfold row4
  rw [show (n + 1) * 4 = n * 4 + 1 + 1 + 1 + 1 by omega]
  simp only [List.range_succ, List.map_append, List.map_cons, List.map_nil, List.append_assoc, List.cons_append, List.nil_append]
  rw [show n * 4 / 4 = n by omega, show n * 4 % 4 = 0 by omega, show (n * 4 + 1) / 4 = n by omega, show (n * 4 + 1) % 4 = 1 by omega, show (n * 4 + 1 + 1) / 4 = n by omega, show (n * 4 + 1 + 1) % 4 = 2 by omega, show (n * 4 + 1 + 1 + 1) / 4 = n by omega, show (n * 4 + 1 + 1 + 1) % 4 = 3 by omega]

def ofI : Option Nat → Int
  | none => -1
  | some v => (v : Int)
def ofL (N : Nat) (own : Nat → Option Nat) : List Int := (List.range N).map fun q => ofI (own q)
theorem ofL_len (N : Nat) (own : Nat → Option Nat) : (ofL N own).length = N := by simp [ofL]
theorem ofL_get {N : Nat} (own : Nat → Option Nat) {q : Nat} (hq : q < N) : (ints (ofL N own))[q]? = some (.int .i64 (ofI (own q))) := by simp [ofL, ints, hq]
theorem ofL_set {N : Nat} (own : Nat → Option Nat) {q : Nat} (hq : q < N) (o : Option Nat) : (ints (ofL N own)).set q (.int .i64 (ofI o)) = ints (ofL N fun p => if p = q then o else own p) := by
  refine List.ext_getElem? fun i => ?_
  by_cases hi : i < N
  · rw [ofL_get _ hi]
    by_cases c : i = q
    · subst c
      rw [if_pos rfl, List.getElem?_set_self (by simp [ints, ofL]; omega)]
    · rw [if_neg c, List.getElem?_set_ne (by omega), ofL_get _ hi]
  · rw [List.getElem?_eq_none (by simp [ints, ofL]; omega), List.getElem?_eq_none (by simp [ints, ofL]; omega)]
def nums (l : List Nat) : List Int := l.map fun (i : Nat) => (i : Int)
theorem nums_len (l : List Nat) : (nums l).length = l.length := by simp [nums]
theorem nums_get {l : List Nat} {j : Nat} (h : j < l.length) : (ints (nums l))[j]? = some (.int .i64 ((l[j] : Nat) : Int)) := by simp [nums, ints, h]
theorem nums_app (l m : List Nat) : ints (nums (l ++ m)) = ints (nums l) ++ ints (nums m) := by simp [nums, ints]
def updF {α : Type} (f : Nat → α) (i : Nat) (x : α) : Nat → α := fun j => if j = i then x else f j
theorem updF_self {α : Type} (f : Nat → α) (i : Nat) (x : α) : updF f i x i = x := by simp [updF]
theorem updF_ne {α : Type} (f : Nat → α) {i j : Nat} (x : α) (h : j ≠ i) : updF f i x j = f j := by simp [updF, h]

theorem valT : ElemT 86 89 (.agg #[.int .i64 0, .int .i64 0, .int .i64 0, .slice none 0 0]) 4 48 := ⟨Try.underlying86, by kernel_rfl, rfl, by decide, by decide⟩
def vc (st : VS) (P : Nat → Nat × Nat) (Ls : Nat → List Nat) (v k : Nat) : Value :=
  if k = 0 then .int .i64 (st.born v) else if k = 1 then .int .i64 ((st.place v : Nat) : Int) else if k = 2 then .int .i64 (st.dies v) else .slice (some ⟨(P v).1, 0, none⟩) (Ls v).length (P v).2
/-- The reference's valleys. -/
structure SV (b0 N gb og oc : Nat) (P : Nat → Nat × Nat) (Ls : Nat → List Nat) (st : VS) (w : World) : Prop where
  fo : w.ownsRow b0 2 1 (.slice (some ⟨gb, 0, none⟩) N N) N (ints (ofL N st.own))
  out : w.ownsRow b0 89 4 (.slice (some ⟨og, 0, none⟩) st.n oc) st.n (row4 st.n (vc st P Ls))
  set : ∀ v, v < st.n → w.ownsRow b0 2 1 (.slice (some ⟨(P v).1, 0, none⟩) (Ls v).length (P v).2) (Ls v).length (ints (nums (Ls v)))
  mem : ∀ v, v < st.n → (Ls v).Nodup ∧ ∀ q, q ∈ Ls v ↔ st.mem v q = true
  d1 : gb ≠ og
  d2 : ∀ v, v < st.n → (P v).1 ≠ gb ∧ (P v).1 ≠ og
  d3 : ∀ u v, u < st.n → v < st.n → u ≠ v → (P u).1 ≠ (P v).1
theorem SV.lts {b0 N gb og oc : Nat} {P : Nat → Nat × Nat} {Ls : Nat → List Nat} {st : VS} {w : World} (h : SV b0 N gb og oc P Ls st w) : (b0 ≤ gb ∧ gb < w.heap.size) ∧ (b0 ≤ og ∧ og < w.heap.size) ∧ ∀ v, v < st.n → b0 ≤ (P v).1 ∧ (P v).1 < w.heap.size :=
  ⟨h.fo.lt gb rfl, h.out.lt og rfl, fun v hv => (h.set v hv).lt _ rfl⟩
theorem SV.ext {b0 N gb og oc : Nat} {P : Nat → Nat × Nat} {Ls : Nat → List Nat} {st : VS} {w w' : World} (h : SV b0 N gb og oc P Ls st w) (hb : Below w.heap.size w w') : SV b0 N gb og oc P Ls st w' :=
  ⟨own_ext hb h.fo, own_ext hb h.out, fun v hv => own_ext hb (h.set v hv), h.mem, h.d1, h.d2, h.d3⟩
theorem SV.drewN {b0 N gb og oc : Nat} {P : Nat → Nat × Nat} {Ls : Nat → List Nat} {st : VS} {w : World} (h : SV b0 N gb og oc P Ls st w) (k : Nat) : SV b0 N gb og oc P Ls st (w.drewN k) := ⟨h.fo, h.out, h.set, h.mem, h.d1, h.d2, h.d3⟩
theorem SV.setOf {b0 N gb og oc : Nat} {P : Nat → Nat × Nat} {Ls : Nat → List Nat} {st : VS} {w : World} (h : SV b0 N gb og oc P Ls st w) {q : Nat} (hq : q < N) (o : Option Nat) :
    SV b0 N gb og oc P Ls { st with own := fun p => if p = q then o else st.own p } (w.setCell ⟨gb, q, none⟩ (.int .i64 (ofI o))) := by
  obtain ⟨h1, hg⟩ := h.fo.stored q (.int .i64 (ofI o))
  rw [ofL_set _ hq] at h1
  exact ⟨h1, h.out.kept hg (.inr fun e => h.d1 (Option.some.inj e).symm), fun v hv => (h.set v hv).kept hg (.inr fun e => (h.d2 v hv).1 (Option.some.inj e)), h.mem, h.d1, h.d2, h.d3⟩
theorem SV.setDies {b0 N gb og oc : Nat} {P : Nat → Nat × Nat} {Ls : Nat → List Nat} {st : VS} {w : World} (h : SV b0 N gb og oc P Ls st w) {v : Nat} (hv : v < st.n) (L : Int) :
    SV b0 N gb og oc P Ls { st with dies := fun u => if u = v then L else st.dies u } (w.setCell ⟨og, v * 4 + 2, none⟩ (.int .i64 L)) := by
  obtain ⟨h1, hg⟩ := h.out.stored (v * 4 + 2) (.int .i64 L)
  rw [row4_set _ hv (by omega)] at h1
  refine ⟨h.fo.kept hg (.inr fun e => h.d1 (Option.some.inj e)), ?_, fun u hu => (h.set u hu).kept hg (.inr fun e => (h.d2 u hu).2 (Option.some.inj e)), h.mem, h.d1, h.d2, h.d3⟩
  rw [show row4 st.n (vc { st with dies := fun u => if u = v then L else st.dies u } P Ls) = row4 st.n (fun a b => if a = v ∧ b = 2 then .int .i64 L else vc st P Ls a b) from row4_congr fun a ha k hk => by
    unfold vc
    by_cases e : a = v
    · subst e
      by_cases e2 : k = 2
      · subst e2; simp
      · simp [e2]
    · simp [e]]
  exact h1
theorem SV.join {b0 N gb og oc : Nat} {P : Nat → Nat × Nat} {Ls : Nat → List Nat} {st : VS} {w w' : World} (h : SV b0 N gb og oc P Ls st w) {s : Nat} (hs : s < st.n) {l : List Nat} {g M cap : Nat}
    (hl : (Ls s ++ l).length = M) (ho : w'.ownsRow b0 2 1 (.slice (some ⟨g, 0, none⟩) M cap) M (ints (nums (Ls s ++ l)))) (hg : w.grownBy w' (some (P s).1)) (hat : some (P s).1 = some g ∨ g = w.heap.size)
    (mem' : Nat → Nat → Bool) (hm : ∀ v, v < st.n → (updF Ls s (Ls s ++ l) v).Nodup ∧ ∀ q, q ∈ updF Ls s (Ls s ++ l) v ↔ mem' v q = true) :
    SV b0 N gb og oc (updF P s (g, cap)) (updF Ls s (Ls s ++ l)) { st with mem := mem' } (w'.setCell ⟨og, s * 4 + 3, none⟩ (.slice (some ⟨g, 0, none⟩) M cap)) := by
  obtain ⟨⟨l1, l2⟩, ⟨l3, l4⟩, l5⟩ := h.lts
  have hge : ∀ b, b < w.heap.size → b ≠ (P s).1 → b ≠ g := fun b hb hne e => by
    rcases hat with e2 | e2
    · exact hne (e.trans (Option.some.inj e2).symm)
    · omega
  have o1 := h.out.kept hg (.inr fun e => (h.d2 s hs).2 (Option.some.inj e).symm)
  obtain ⟨h1, hg2⟩ := o1.stored (s * 4 + 3) (.slice (some ⟨g, 0, none⟩) M cap)
  rw [row4_set _ hs (by omega)] at h1
  refine ⟨(h.fo.kept hg (.inr fun e => (h.d2 s hs).1 (Option.some.inj e).symm)).kept hg2 (.inr fun e => h.d1 (Option.some.inj e)), ?_, fun u hu => ?_, hm, h.d1, fun u hu => ?_, fun u v hu hv huv => ?_⟩
  · rw [show row4 st.n (vc { st with mem := mem' } (updF P s (g, cap)) (updF Ls s (Ls s ++ l))) = row4 st.n (fun a b => if a = s ∧ b = 3 then .slice (some ⟨g, 0, none⟩) M cap else vc st P Ls a b) from row4_congr fun a ha k hk => by
      unfold vc
      by_cases e : a = s
      · subst e
        rw [updF_self, updF_self, hl]
        have : k = 0 ∨ k = 1 ∨ k = 2 ∨ k = 3 := by omega
        rcases this with e | e | e | e <;> subst e <;> simp
      · rw [updF_ne _ _ e, updF_ne _ _ e]; simp [e]]
    exact h1
  · by_cases e : u = s
    · subst e
      rw [updF_self, updF_self, hl]
      exact ho.kept hg2 (.inr fun e => by
        have := Option.some.inj e
        exact hge og l4 (h.d2 u hs).2.symm this.symm)
    · rw [updF_ne _ _ e, updF_ne _ _ e]
      exact ((h.set u hu).kept hg (.inr fun e2 => h.d3 u s hu hs e (Option.some.inj e2))).kept hg2 (.inr fun e2 => (h.d2 u hu).2 (Option.some.inj e2))
  · by_cases e : u = s
    · subst e
      rw [updF_self]
      exact ⟨fun e2 => hge gb l2 (h.d2 u hs).1.symm e2.symm, fun e2 => hge og l4 (h.d2 u hs).2.symm e2.symm⟩
    · rw [updF_ne _ _ e]; exact h.d2 u hu
  · by_cases e : u = s
    · subst e
      rw [updF_self, updF_ne _ _ (Ne.symm huv)]
      exact fun e2 => hge _ (l5 v hv).2 (h.d3 v u hv hu (Ne.symm huv)) e2.symm
    · rw [updF_ne _ _ e]
      by_cases e3 : v = s
      · subst e3
        rw [updF_self]
        exact hge _ (l5 u hu).2 (h.d3 u v hu hv huv)
      · rw [updF_ne _ _ e3]; exact h.d3 u v hu hv huv
theorem SV.born {b0 N gb og oc : Nat} {P : Nat → Nat × Nat} {Ls : Nat → List Nat} {st : VS} {w w' : World} {i : Nat} {L : Int} (h : SV b0 N gb og oc P Ls { st with own := fun p => if p = i then some st.n else st.own p } w) {B g cap : Nat}
    (ho : w'.ownsRow b0 89 4 (.slice (some ⟨g, 0, none⟩) (st.n + 1) cap) (st.n + 1) (row4 st.n (vc st P Ls) ++ [.int .i64 L, .int .i64 i, .int .i64 (-1), .slice (some ⟨B, 0, none⟩) 1 1]))
    (hset : w'.ownsRow b0 2 1 (.slice (some ⟨B, 0, none⟩) 1 1) 1 [.int .i64 i]) (hB : w.heap.size ≤ B) {w1 : World} (hb1 : Below w.heap.size w w1) (hg : w1.grownBy w' (some og)) (hat : some og = some g ∨ g = w1.heap.size) (hB1 : B < w1.heap.size) :
    SV b0 N gb g cap (updF P st.n (B, 1)) (updF Ls st.n [i]) (fin i st.n (grow L i st)) w' := by
  obtain ⟨⟨l1, l2⟩, ⟨l3, l4⟩, l5⟩ := h.lts
  have z1 := hb1.size
  have hge : ∀ b, b < w1.heap.size → b ≠ og → b ≠ g := fun b hb hne e => by
    rcases hat with e2 | e2
    · exact hne (e.trans (Option.some.inj e2).symm)
    · omega
  have fn : (fin i st.n (grow L i st)).n = st.n + 1 := rfl
  refine ⟨?_, ?_, fun u hu => ?_, fun u hu => ?_, ?_, fun u hu => ?_, fun u v hu hv huv => ?_⟩
  · have := (own_ext hb1 h.fo).kept hg (.inr fun e => h.d1 (Option.some.inj e))
    rw [show ofL N (fin i st.n (grow L i st)).own = ofL N (fun p => if p = i then some st.n else st.own p) from rfl]
    exact this
  · rw [fn, row4_succ]
    rw [show row4 st.n (vc (fin i st.n (grow L i st)) (updF P st.n (B, 1)) (updF Ls st.n [i])) = row4 st.n (vc st P Ls) from row4_congr fun a ha k hk => by
      unfold vc fin grow
      have : a ≠ st.n := by omega
      rw [updF_ne _ _ this, updF_ne _ _ this]
      simp [this]]
    have e0 : [vc (fin i st.n (grow L i st)) (updF P st.n (B, 1)) (updF Ls st.n [i]) st.n 0, vc (fin i st.n (grow L i st)) (updF P st.n (B, 1)) (updF Ls st.n [i]) st.n 1, vc (fin i st.n (grow L i st)) (updF P st.n (B, 1)) (updF Ls st.n [i]) st.n 2, vc (fin i st.n (grow L i st)) (updF P st.n (B, 1)) (updF Ls st.n [i]) st.n 3] = [.int .i64 L, .int .i64 i, .int .i64 (-1), .slice (some ⟨B, 0, none⟩) 1 1] := by
      simp [vc, fin, grow, updF_self]
    rw [e0]
    exact ho
  · rw [fn] at hu
    by_cases e : u = st.n
    · subst e
      rw [updF_self, updF_self]
      exact hset
    · rw [updF_ne _ _ e, updF_ne _ _ e]
      have hu2 : u < st.n := by omega
      exact (own_ext hb1 (h.set u hu2)).kept hg (.inr fun e2 => (h.d2 u hu2).2 (Option.some.inj e2))
  · rw [fn] at hu
    by_cases e : u = st.n
    · subst e
      rw [updF_self]
      refine ⟨by simp, fun q => ?_⟩
      simp [fin, grow]
    · rw [updF_ne _ _ e]
      have := h.mem u (show u < st.n by omega)
      refine ⟨this.1, fun q => ?_⟩
      rw [this.2 q]
      simp [fin, grow, e]
  · exact hge gb (by omega) h.d1
  · rw [fn] at hu
    by_cases e : u = st.n
    · subst e
      rw [updF_self]
      refine ⟨?_, hge B hB1 ?_⟩
      · show B ≠ gb; omega
      · omega
    · rw [updF_ne _ _ e]
      have hu2 : u < st.n := by omega
      exact ⟨(h.d2 u hu2).1, hge _ (by have := (l5 u hu2).2; omega) (h.d2 u hu2).2⟩
  · rw [fn] at hu hv
    by_cases e : u = st.n
    · subst e
      rw [updF_self, updF_ne _ _ (Ne.symm huv)]
      have := (l5 v (show v < st.n by omega)).2
      show B ≠ (P v).1
      omega
    · rw [updF_ne _ _ e]
      by_cases e3 : v = st.n
      · subst e3
        rw [updF_self]
        have := (l5 u (show u < st.n by omega)).2
        show (P u).1 ≠ B
        omega
      · rw [updF_ne _ _ e3]
        exact h.d3 u v (show u < st.n by omega) (show v < st.n by omega) huv
end Go.Proofs.Ytkamkjbllmgifaa
