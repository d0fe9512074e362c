/- Valleys, plain: what one pixel more does to the sets of pixels; the order of the pixels. -/
import Derived.Test.YtkamkjbllmgifaaStbP
import Derived.Test.YtkamkjbllmgifaaPasW
namespace Go.Proofs.Ytkamkjbllmgifaa
namespace Vl

/-- All valleys so far: how many, when and where each was born, when it dies, of each pixel its valley, and the pixels that a valley has. -/
structure VS where
  n : Nat
  born : Nat → Int
  place : Nat → Nat
  dies : Nat → Int
  own : Nat → Option Nat
  mem : Nat → Nat → Bool
def VS.start : VS := ⟨0, fun _ => 0, fun _ => 0, fun _ => 0, fun _ => none, fun _ _ => false⟩
/-- The valleys of the neighbours. -/
def near (st : VS) (ps : List Nat) : List Nat := ps.filterMap st.own
/-- Some valleys join another one. -/
def part (M : Nat → Bool) (s : Nat) (L : Int) (st : VS) : VS :=
  { st with
    dies := fun v => if M v then L else st.dies v
    own := fun q => (st.own q).map fun v => if M v then s else v
    mem := fun v q => if v = s then st.mem s q || (st.own q).any M else st.mem v q }
/-- A pixel joins a valley. -/
def fin (i s : Nat) (st : VS) : VS :=
  { st with
    own := fun q => if q = i then some s else st.own q
    mem := fun v q => if v = s ∧ q = i then true else st.mem v q }
/-- A valley is born. -/
def grow (L : Int) (i : Nat) (st : VS) : VS :=
  { n := st.n + 1
    born := fun v => if v = st.n then L else st.born v
    place := fun v => if v = st.n then i else st.place v
    dies := fun v => if v = st.n then -1 else st.dies v
    own := st.own
    mem := fun v q => if v = st.n then false else st.mem v q }
/-- The least of some numbers. -/
def least : List Nat → Nat
  | [] => 0
  | [x] => x
  | x :: y :: r => min x (least (y :: r))
def stepV (ps : List Nat) (L : Int) (i : Nat) (st : VS) : VS :=
  if near st ps = [] then fin i st.n (grow L i st)
  else fin i (least (near st ps)) (part (fun v => (near st ps).contains v && v != least (near st ps)) (least (near st ps)) L st)

theorem least_mem : ∀ {l : List Nat}, l ≠ [] → least l ∈ l
  | [x], _ => by simp [least]
  | x :: y :: r, _ => by
    have := least_mem (l := y :: r) (by simp)
    unfold least
    by_cases h : x ≤ least (y :: r)
    · rw [Nat.min_eq_left h]; exact List.mem_cons_self
    · rw [Nat.min_eq_right (by omega)]; exact List.mem_cons_of_mem _ this
theorem least_le : ∀ {l : List Nat} {v : Nat}, v ∈ l → least l ≤ v
  | [x], v, h => by
    have : v = x := by simpa using h
    simp [least, this]
  | x :: y :: r, v, h => by
    unfold least
    rcases List.mem_cons.1 h with rfl | h
    · exact Nat.min_le_left _ _
    · exact Nat.le_trans (Nat.min_le_right _ _) (least_le h)

/-- What holds of all states. -/
structure Ok (N : Nat) (st : VS) : Prop where
  own : ∀ q v, st.own q = some v → v < st.n ∧ st.dies v = -1 ∧ q < N
  mem : ∀ v, v < st.n → st.dies v = -1 → ∀ q, st.mem v q = true ↔ st.own q = some v
  lt : ∀ v q, v < st.n → st.mem v q = true → q < N
theorem Ok.start (N : Nat) : Ok N VS.start := ⟨fun q v h => by simp [VS.start] at h, fun v h => by simp [VS.start] at h, fun v q h => by simp [VS.start] at h⟩
theorem near_lt {N : Nat} {st : VS} (h : Ok N st) {ps : List Nat} {v : Nat} (hv : v ∈ near st ps) : v < st.n ∧ st.dies v = -1 ∧ ∃ p ∈ ps, st.own p = some v := by
  obtain ⟨p, hp, e⟩ := List.mem_filterMap.1 hv
  exact ⟨(h.own p v e).1, (h.own p v e).2.1, p, hp, e⟩
theorem part_none (s : Nat) (L : Int) (st : VS) : part (fun _ => false) s L st = st := by
  obtain ⟨n, b, p, d, o, m⟩ := st
  simp only [part]
  congr 1
  · funext q; cases o q <;> simp
  · funext v q
    by_cases h : v = s
    · subst h; cases o q <;> simp
    · simp [h]
theorem Ok.part {N : Nat} {st : VS} (h : Ok N st) {M : Nat → Bool} {s : Nat} {L : Int} (hs : s < st.n) (hd : st.dies s = -1) (hM : M s = false) (hL : 0 ≤ L) : Ok N (part M s L st) := by
  refine ⟨fun q v hq => ?_, fun v hv hdv q => ?_, fun v q hv hm => ?_⟩
  · simp only [Vl.part, Option.map_eq_some_iff] at hq ⊢
    obtain ⟨u, hu, e⟩ := hq
    obtain ⟨h1, h2, h3⟩ := h.own q u hu
    cases hMu : M u
    · simp only [hMu] at e; subst e
      refine ⟨h1, ?_, h3⟩
      simp [hMu, h2]
    · simp only [hMu, if_true] at e; subst e
      exact ⟨hs, by simp [hM, hd], h3⟩
  · simp only [Vl.part] at hv hdv ⊢
    by_cases hMv : M v = true
    · rw [if_pos hMv] at hdv; omega
    · rw [if_neg hMv] at hdv
      by_cases e : v = s
      · subst e
        rw [if_pos rfl, Bool.or_eq_true, h.mem v hv hdv q]
        cases ho : st.own q with
        | none => simp
        | some u =>
          by_cases hu : M u = true
          · simp [hu]
          · simp [hu]
      · rw [if_neg e, h.mem v hv hdv q]
        cases ho : st.own q with
        | none => simp
        | some u =>
          by_cases hu : M u = true
          · have : u ≠ v := by rintro rfl; exact hMv hu
            simp [hu, this, Ne.symm e]
          · simp [hu]
  · simp only [Vl.part] at hm hv
    by_cases e : v = s
    · subst e
      rw [if_pos rfl, Bool.or_eq_true] at hm
      rcases hm with hm | hm
      · exact h.lt v q hv hm
      · cases ho : st.own q with
        | none => simp [ho] at hm
        | some u => exact (h.own q u ho).2.2
    · rw [if_neg e] at hm
      exact h.lt v q hv hm
theorem Ok.fin {N : Nat} {st : VS} (h : Ok N st) {i s : Nat} (hs : s < st.n) (hd : st.dies s = -1) (hi : i < N) (ho : st.own i = none) : Ok N (fin i s st) := by
  refine ⟨fun q v hq => ?_, fun v hv hdv q => ?_, fun v q hv hm => ?_⟩
  · simp only [Vl.fin] at hq ⊢
    by_cases e : q = i
    · subst e
      rw [if_pos rfl] at hq
      cases hq
      exact ⟨hs, hd, hi⟩
    · rw [if_neg e] at hq
      exact h.own q v hq
  · simp only [Vl.fin] at hv hdv ⊢
    by_cases e : q = i
    · subst e
      rw [if_pos rfl]
      by_cases e2 : v = s
      · subst e2; simp
      · rw [if_neg (by simp [e2]), h.mem v hv hdv q, ho]
        simp [Ne.symm e2]
    · rw [if_neg e, if_neg (by simp [e])]
      exact h.mem v hv hdv q
  · simp only [Vl.fin] at hm hv
    by_cases e : v = s ∧ q = i
    · rw [e.2]; exact hi
    · rw [if_neg e] at hm
      exact h.lt v q hv hm
theorem Ok.grow {N : Nat} {st : VS} (h : Ok N st) (L : Int) (i : Nat) : Ok N (grow L i st) := by
  refine ⟨fun q v hq => ?_, fun v hv hdv q => ?_, fun v q hv hm => ?_⟩
  · simp only [Vl.grow] at hq ⊢
    obtain ⟨h1, h2, h3⟩ := h.own q v hq
    exact ⟨by omega, by rw [if_neg (by omega)]; exact h2, h3⟩
  · simp only [Vl.grow] at hv hdv ⊢
    by_cases e : v = st.n
    · rw [if_pos e]
      constructor
      · intro h; cases h
      · intro hq
        have := (h.own q v hq).1
        omega
    · rw [if_neg e] at hdv ⊢
      exact h.mem v (by omega) hdv q
  · simp only [Vl.grow] at hv hm
    by_cases e : v = st.n
    · rw [if_pos e] at hm; cases hm
    · rw [if_neg e] at hm
      exact h.lt v q (by omega) hm
theorem Ok.step {N : Nat} {st : VS} (h : Ok N st) {ps : List Nat} {L : Int} {i : Nat} (hi : i < N) (ho : st.own i = none) (hL : 0 ≤ L) : Ok N (stepV ps L i st) := by
  unfold stepV
  by_cases e : near st ps = []
  · rw [if_pos e]
    exact (h.grow L i).fin (by simp [Vl.grow]) (by simp [Vl.grow]) hi ho
  · rw [if_neg e]
    obtain ⟨h1, h2, -⟩ := near_lt h (least_mem e)
    refine (h.part h1 h2 (by simp) hL).fin h1 ?_ hi ?_
    · simp [Vl.part, h2]
    · simp [Vl.part, ho]
theorem step_own {st : VS} {ps : List Nat} {L : Int} {i q : Nat} (hq : q ≠ i) : ((stepV ps L i st).own q).isSome = (st.own q).isSome := by
  unfold stepV
  by_cases e : near st ps = []
  · rw [if_pos e]; simp [Vl.fin, Vl.grow, hq]
  · rw [if_neg e]; simp [Vl.fin, Vl.part, hq]
theorem step_self {st : VS} {ps : List Nat} {L : Int} {i : Nat} : ((stepV ps L i st).own i).isSome = true := by
  unfold stepV
  by_cases e : near st ps = []
  · rw [if_pos e]; simp [Vl.fin]
  · rw [if_neg e]; simp [Vl.fin]
/-- One valley more joins. -/
theorem part_more {N : Nat} {st : VS} (h : Ok N st) {M : Nat → Bool} {s v : Nat} {L : Int} (hvs : v ≠ s) (hv : M v = false) (hn : v < st.n) (hd : st.dies v = -1) :
    part (fun u => M u || u == v) s L st = { part M s L st with
      dies := fun u => if u = v then L else (part M s L st).dies u
      own := fun q => if (part M s L st).own q = some v then some s else (part M s L st).own q
      mem := fun u q => if u = s then (part M s L st).mem s q || (part M s L st).mem v q else (part M s L st).mem u q } := by
  simp only [part]
  congr 1
  · funext u
    by_cases e : u = v
    · subst e; simp
    · simp [e]
  · funext q
    have cs : st.own q = none ∨ ∃ u, st.own q = some u := by cases st.own q <;> simp
    rcases cs with ho | ⟨u, ho⟩
    · simp [ho]
    · by_cases e : u = v
      · subst e; simp [ho, hv]
      · by_cases hM : M u = true
        · simp [ho, hM, Ne.symm hvs]
        · simp [ho, hM, e]
  · funext u q
    by_cases e : u = s
    · subst e
      simp only [if_true, if_neg hvs]
      have := h.mem v hn hd q
      cases ho : st.own q with
      | none =>
        have : st.mem v q = false := by
          cases hm : st.mem v q with
          | false => rfl
          | true => rw [this, ho] at hm; cases hm
        simp [this]
      | some x =>
        by_cases ex : x = v
        · subst ex
          rw [this.2 ho]; simp
        · have : st.mem v q = false := by
            cases hm : st.mem v q with
            | false => rfl
            | true => rw [this, ho] at hm; cases hm; exact absurd rfl ex
          rw [this]
          have : (x == v) = false := by simpa using ex
          simp [this]
    · simp [e]

/-- The pixels by their numbers, and by their places. -/
def ltP (num : Nat → Int) (i j : Nat) : Prop := num i < num j ∨ (num i = num j ∧ i < j)
theorem ltP_irr (num : Nat → Int) (i : Nat) : ¬ ltP num i i := by unfold ltP; omega
theorem ltP_asym {num : Nat → Int} {i j : Nat} (h : ltP num i j) : ¬ ltP num j i := by unfold ltP at *; omega
theorem ltP_trans {num : Nat → Int} {i j k : Nat} (h : ltP num i j) (h2 : ltP num j k) : ltP num i k := by unfold ltP at *; omega
theorem ltP_tri {num : Nat → Int} {i j : Nat} (h : i ≠ j) : ltP num i j ∨ ltP num j i := by unfold ltP; omega
theorem sorted_ext {α : Type} {r : α → α → Prop} (ir : ∀ x, ¬ r x x) (asy : ∀ x y, r x y → ¬ r y x) : ∀ {l m : List α}, l.Pairwise r → m.Pairwise r → (∀ x, x ∈ l ↔ x ∈ m) → l = m
  | [], [], _, _, _ => rfl
  | [], y :: m, _, _, h => by have := (h y).2 List.mem_cons_self; cases this
  | x :: l, [], _, _, h => by have := (h x).1 List.mem_cons_self; cases this
  | x :: l, y :: m, hl, hm, h => by
    obtain ⟨h1, h2⟩ := List.pairwise_cons.1 hl
    obtain ⟨k1, k2⟩ := List.pairwise_cons.1 hm
    have e : x = y := by
      rcases List.mem_cons.1 ((h x).1 List.mem_cons_self) with e | hx
      · exact e
      · rcases List.mem_cons.1 ((h y).2 List.mem_cons_self) with e | hy
        · exact e.symm
        · exact absurd (k1 x hx) (asy _ _ (h1 y hy))
    subst e
    refine congrArg _ (sorted_ext ir asy h2 k2 fun z => ⟨fun hz => ?_, fun hz => ?_⟩)
    · rcases List.mem_cons.1 ((h z).1 (List.mem_cons_of_mem _ hz)) with e | q
      · subst e; exact absurd (h1 z hz) (ir z)
      · exact q
    · rcases List.mem_cons.1 ((h z).2 (List.mem_cons_of_mem _ hz)) with e | q
      · subst e; exact absurd (k1 z hz) (ir z)
      · exact q
/-- The reference's order: level after level; of a level the places up to one. -/
def lev (num : Nat → Int) (l : Nat) (i : Nat) : List Nat := (List.range i).filter fun k => num k == (l : Int)
def ordS (num : Nat → Int) (N l : Nat) : List Nat := (List.range l).flatMap fun k => lev num k N
theorem lev_succ (num : Nat → Int) (l i : Nat) : lev num l (i + 1) = if num i = (l : Int) then lev num l i ++ [i] else lev num l i := by
  unfold lev
  rw [List.range_succ, List.filter_append]
  by_cases h : num i = (l : Int)
  · simp [h]
  · simp [h]
theorem ordS_succ (num : Nat → Int) (N l : Nat) : ordS num N (l + 1) = ordS num N l ++ lev num l N := by
  unfold ordS
  rw [List.range_succ, List.flatMap_append]
  simp
theorem ordS_mem (num : Nat → Int) (N l i : Nat) : i ∈ ordS num N l ↔ i < N ∧ 0 ≤ num i ∧ num i < l := by
  unfold ordS lev
  simp only [List.mem_flatMap, List.mem_range, List.mem_filter, beq_iff_eq]
  constructor
  · rintro ⟨k, h1, h2, h3⟩; omega
  · rintro ⟨h1, h2, h3⟩; exact ⟨(num i).toNat, by omega, h1, by omega⟩
theorem lev_pw (num : Nat → Int) (l i : Nat) : (lev num l i).Pairwise (ltP num) := by
  unfold lev
  have h : ((List.range i).filter fun k => num k == (l : Int)).Pairwise (· < ·) := List.Pairwise.sublist List.filter_sublist List.pairwise_lt_range
  refine h.imp_of_mem fun {a b} ha hb hab => ?_
  simp only [List.mem_filter, beq_iff_eq] at ha hb
  exact .inr ⟨by omega, hab⟩
theorem ordS_pw (num : Nat → Int) (N : Nat) : ∀ l, (ordS num N l).Pairwise (ltP num)
  | 0 => by simp [ordS]
  | l + 1 => by
    rw [ordS_succ, List.pairwise_append]
    refine ⟨ordS_pw num N l, lev_pw _ _ _, fun a ha b hb => ?_⟩
    rw [ordS_mem] at ha
    simp only [lev, List.mem_filter, beq_iff_eq] at hb
    exact .inl (by omega)
/-- All valleys behind some pixels. -/
def fold (nb : Nat → List Nat) (num : Nat → Int) (l : List Nat) : VS := l.foldl (fun st i => stepV (nb i) (num i) i st) VS.start
theorem fold_nil (nb : Nat → List Nat) (num : Nat → Int) : fold nb num [] = VS.start := rfl
theorem fold_app (nb : Nat → List Nat) (num : Nat → Int) (l : List Nat) (i : Nat) : fold nb num (l ++ [i]) = stepV (nb i) (num i) i (fold nb num l) := by simp [fold]
theorem fold_own (nb : Nat → List Nat) (num : Nat → Int) (l : List Nat) (q : Nat) : ((fold nb num l).own q).isSome = true ↔ q ∈ l := by
  have G : ∀ (m : List Nat), ((fold nb num m.reverse).own q).isSome = true ↔ q ∈ m := by
    intro m
    induction m with
    | nil => simp [fold, VS.start]
    | cons i m ih =>
      rw [List.reverse_cons, fold_app, List.mem_cons]
      by_cases e : q = i
      · subst e; simp [step_self]
      · rw [step_own e, ih]; simp [e]
  have := G l.reverse
  rwa [List.reverse_reverse, List.mem_reverse] at this
theorem fold_ok {nb : Nat → List Nat} {num : Nat → Int} {N : Nat} {l : List Nat} (hl : l.Nodup) (hN : ∀ i ∈ l, i < N ∧ 0 ≤ num i) : Ok N (fold nb num l) := by
  have G : ∀ (m : List Nat), m.Nodup → (∀ i ∈ m, i < N ∧ 0 ≤ num i) → Ok N (fold nb num m.reverse) := by
    intro m
    induction m with
    | nil => intro _ _; exact Ok.start N
    | cons i m ih =>
      intro h1 h2
      rw [List.nodup_cons] at h1
      rw [List.reverse_cons, fold_app]
      refine (ih h1.2 fun j hj => h2 j (List.mem_cons_of_mem _ hj)).step (h2 i List.mem_cons_self).1 ?_ (h2 i List.mem_cons_self).2
      have := fold_own nb num m.reverse i
      rw [List.mem_reverse] at this
      cases ho : (fold nb num m.reverse).own i with
      | none => rfl
      | some v => rw [ho] at this; exact absurd (this.1 rfl) h1.1
  have := G l.reverse (List.pairwise_reverse.2 (hl.imp fun h => Ne.symm h)) (fun i hi => hN i (List.mem_reverse.1 hi))
  rwa [List.reverse_reverse] at this
theorem ltP_nodup {num : Nat → Int} {l : List Nat} (h : l.Pairwise (ltP num)) : l.Nodup := h.imp fun {a b} hab e => by subst e; exact ltP_irr num a hab
/-- How many valleys there are at most. -/
theorem fold_n (nb : Nat → List Nat) (num : Nat → Int) (l : List Nat) : (fold nb num l).n ≤ l.length := by
  have G : ∀ (m : List Nat), (fold nb num m.reverse).n ≤ m.length := by
    intro m
    induction m with
    | nil => simp [fold, VS.start]
    | cons i m ih =>
      rw [List.reverse_cons, fold_app]
      unfold stepV
      split <;> simp [fin, grow, part] <;> omega
  have := G l.reverse
  rwa [List.reverse_reverse, List.length_reverse] at this
end Vl
end Go.Proofs.Ytkamkjbllmgifaa
