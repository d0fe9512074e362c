/- Valleys, plain: what they are by the sets of pixels up to a level. One of each class of a relation, and how many there are; labels have one of each class. Plain. How many sets of pixels there are up to a level: as many as valleys live there. Plain. The list of the valleys that last, plain: what each one is, and how many live at a level. Filled valleys, plain: the valleys of a filled picture are those that are deep enough. -/
import Derived.Test.YtkamkjbllmgifaaVlF
import Derived.Test.YtkamkjbllmgifaaRch
import Derived.Test.YtkamkjbllmgifaaBlw
namespace Go.Proofs.Ytkamkjbllmgifaa
open Go.RowKit
namespace Vl

/-- A pixel that a way inside a set reaches. -/
inductive Cn (nb : Nat → List Nat) (S : Nat → Prop) (a : Nat) : Nat → Prop
  | start : S a → Cn nb S a a
  | step (p q : Nat) : Cn nb S a p → q ∈ nb p → S q → Cn nb S a q
section
variable {nb : Nat → List Nat} {S T : Nat → Prop} {a b c : Nat}
theorem Cn.mem (h : Cn nb S a b) : S b := by cases h with | start h => exact h | step p q _ _ h => exact h
theorem Cn.left (h : Cn nb S a b) : S a := by induction h with | start h => exact h | step p q _ _ _ ih => exact ih
theorem Cn.mono (h : Cn nb S a b) (hs : ∀ x, S x → T x) : Cn nb T a b := by
  induction h with
  | start h => exact .start (hs _ h)
  | step p q _ h2 h3 ih => exact .step p q ih h2 (hs _ h3)
theorem Cn.trans (h : Cn nb S a b) (k : Cn nb S b c) : Cn nb S a c := by
  induction k with
  | start _ => exact h
  | step p q _ h2 h3 ih => exact .step p q ih h2 h3
theorem Cn.symm (sy : ∀ p q, S p → S q → q ∈ nb p → p ∈ nb q) (h : Cn nb S a b) : Cn nb S b a := by
  induction h with
  | start h => exact .start h
  | step p q h1 h2 h3 ih => exact (Cn.step q p (.start h3) (sy p q h1.mem h3 h2) h1.mem).trans ih
end

/-- What holds of the valleys behind some pixels in their order. -/
structure Inv (nb : Nat → List Nat) (num : Nat → Int) (N : Nat) (l : List Nat) (st : VS) : Prop where
  ok : Ok N st
  own : ∀ q, (st.own q).isSome = true ↔ q ∈ l
  conn : ∀ p q v, st.own p = some v → st.own q = some v → Cn nb (· ∈ l) p q
  adj : ∀ p q, p ∈ l → q ∈ l → q ∈ nb p → st.own p = st.own q
  place : ∀ v, v < st.n → st.place v ∈ l
  born : ∀ v, v < st.n → st.born v = num (st.place v)
  alive : ∀ v, v < st.n → st.dies v = -1 → st.own (st.place v) = some v ∧ ∀ q, st.own q = some v → q = st.place v ∨ ltP num (st.place v) q
  ord : ∀ u v, u < v → v < st.n → ltP num (st.place u) (st.place v)
  dead : ∀ v, v < st.n → st.dies v ≠ -1 → 0 < v ∧ (∃ j ∈ l, st.dies v = num j) ∧ st.mem v (st.place v) = true ∧
    ∀ q, st.mem v q = true → q ∈ l ∧ num q ≤ st.dies v ∧ (q = st.place v ∨ ltP num (st.place v) q) ∧ (∀ x, x < N → x ∈ nb q → num x < st.dies v → st.mem v x = true) ∧ ∀ u, u < st.n → u ≠ v → st.place u = q → st.dies u ≠ -1 ∧ st.dies u ≤ st.dies v

section
variable {nb : Nat → List Nat} {num : Nat → Int} {N : Nat} {l : List Nat} {st : VS}
theorem Inv.start : Inv nb num N [] VS.start where
  ok := Ok.start N
  own q := by simp [VS.start]
  conn p q v h := by simp [VS.start] at h
  adj p q h := by cases h
  place v h := by simp [VS.start] at h
  born v h := by simp [VS.start] at h
  alive v h := by simp [VS.start] at h
  ord u v _ h := by simp [VS.start] at h
  dead v h := by simp [VS.start] at h
theorem Inv.own_mem (h : Inv nb num N l st) {q v : Nat} (e : st.own q = some v) : q ∈ l := (h.own q).1 (by rw [e]; rfl)
theorem Inv.own_lt (h : Inv nb num N l st) {q v : Nat} (e : st.own q = some v) : v < st.n ∧ st.dies v = -1 := ⟨(h.ok.own q v e).1, (h.ok.own q v e).2.1⟩
theorem Inv.has (h : Inv nb num N l st) {q : Nat} (hq : q ∈ l) : ∃ v, st.own q = some v := Option.isSome_iff_exists.1 ((h.own q).2 hq)
theorem Inv.step (h : Inv nb num N l st) (sy : ∀ p q, p < N → q < N → q ∈ nb p → p ∈ nb q) (hl : ∀ j ∈ l, j < N) {i : Nat} (hi : i < N) (h0 : 0 ≤ num i) (lt : ∀ j ∈ l, ltP num j i) (low : ∀ j, j < N → ltP num j i → j ∈ l) :
    Inv nb num N (l ++ [i]) (stepV (nb i) (num i) i st) := by
  have il : i ∉ l := fun e => ltP_irr num i (lt i e)
  have oi : st.own i = none := by
    cases e : st.own i with
    | none => rfl
    | some v => exact absurd (h.own_mem e) il
  have mo : ∀ x, x ∈ l → x ∈ l ++ [i] := fun x hx => List.mem_append_left _ hx
  have mi : i ∈ l ++ [i] := by simp
  have nN : ∀ x, x ∈ l ++ [i] → x < N := fun x hx => by
    rcases List.mem_append.1 hx with h1 | h1
    · exact hl x h1
    · rw [List.mem_singleton.1 h1]; exact hi
  have OK2 := h.ok.step (ps := nb i) (L := num i) hi oi h0
  have OW2 : ∀ q, ((stepV (nb i) (num i) i st).own q).isSome = true ↔ q ∈ l ++ [i] := fun q => by
    by_cases e : q = i
    · subst e; simp [step_self]
    · rw [step_own e, h.own q]; simp [e]
  have pne : ∀ v, v < st.n → st.place v ≠ i := fun v hv e => il (e ▸ h.place v hv)
  have dle : ∀ v, v < st.n → st.dies v ≠ -1 → st.dies v ≤ num i := fun v hv hd => by
    obtain ⟨j, hj, e⟩ := (h.dead v hv hd).2.1
    have := lt j hj
    unfold ltP at this
    omega
  unfold stepV at OK2 OW2 ⊢
  by_cases e : near st (nb i) = []
  · rw [if_pos e] at OK2 OW2 ⊢
    have ow : ∀ q, (fin i st.n (grow (num i) i st)).own q = if q = i then some st.n else st.own q := fun q => rfl
    have pl : ∀ v, (fin i st.n (grow (num i) i st)).place v = if v = st.n then i else st.place v := fun v => rfl
    have di : ∀ v, (fin i st.n (grow (num i) i st)).dies v = if v = st.n then -1 else st.dies v := fun v => rfl
    have bo : ∀ v, (fin i st.n (grow (num i) i st)).born v = if v = st.n then num i else st.born v := fun v => rfl
    have nn : (fin i st.n (grow (num i) i st)).n = st.n + 1 := rfl
    have me : ∀ v q, v ≠ st.n → (fin i st.n (grow (num i) i st)).mem v q = st.mem v q := fun v q hv => by simp [fin, grow, hv]
    generalize fin i st.n (grow (num i) i st) = s2 at *
    refine ⟨OK2, OW2, fun p q v hp hq => ?_, fun p q hp hq hn => ?_, fun v hv => ?_, fun v hv => ?_, fun v hv hd => ?_, fun u v huv hv => ?_, fun v hv hd => ?_⟩
    · rw [ow] at hp hq
      by_cases ep : p = i
      · rw [if_pos ep] at hp
        by_cases eq : q = i
        · rw [ep, eq]; exact .start mi
        · rw [if_neg eq] at hq
          cases hp
          exact absurd (h.own_lt hq).1 (Nat.lt_irrefl _)
      · rw [if_neg ep] at hp
        by_cases eq : q = i
        · rw [if_pos eq] at hq
          cases hq
          exact absurd (h.own_lt hp).1 (Nat.lt_irrefl _)
        · rw [if_neg eq] at hq
          exact (h.conn p q v hp hq).mono mo
    · have key : ∀ x, x ∈ nb i → x ∈ l → False := fun x hx hxl => by
        obtain ⟨u, hu⟩ := h.has hxl
        have : u ∈ near st (nb i) := List.mem_filterMap.2 ⟨x, hx, hu⟩
        rw [e] at this; cases this
      rw [ow, ow]
      by_cases ep : p = i
      · by_cases eq : q = i
        · rw [if_pos ep, if_pos eq]
        · exact (key q (ep ▸ hn) (by simpa [eq] using hq)).elim
      · by_cases eq : q = i
        · exact (key p (eq ▸ sy p q (nN p hp) (nN q hq) hn) (by simpa [ep] using hp)).elim
        · rw [if_neg ep, if_neg eq]
          exact h.adj p q (by simpa [ep] using hp) (by simpa [eq] using hq) hn
    · rw [pl]
      rw [nn] at hv
      by_cases c : v = st.n
      · rw [if_pos c]; exact mi
      · rw [if_neg c]; exact mo _ (h.place v (by omega))
    · rw [pl, bo]
      rw [nn] at hv
      by_cases c : v = st.n
      · rw [if_pos c, if_pos c]
      · rw [if_neg c, if_neg c]; exact h.born v (by omega)
    · rw [pl]
      rw [nn] at hv
      rw [di] at hd
      by_cases c : v = st.n
      · rw [if_pos c, ow, if_pos rfl, c]
        refine ⟨rfl, fun q hq => ?_⟩
        rw [ow] at hq
        by_cases eq : q = i
        · exact .inl eq
        · rw [if_neg eq] at hq
          exact absurd (h.own_lt hq).1 (Nat.lt_irrefl _)
      · rw [if_neg c] at hd ⊢
        have a := h.alive v (by omega) hd
        rw [ow, if_neg (pne v (by omega))]
        refine ⟨a.1, fun q hq => ?_⟩
        rw [ow] at hq
        by_cases eq : q = i
        · rw [if_pos eq] at hq
          cases hq
          exact absurd rfl c
        · rw [if_neg eq] at hq
          exact a.2 q hq
    · rw [nn] at hv
      rw [pl, pl, if_neg (by omega)]
      by_cases c : v = st.n
      · rw [if_pos c]; exact lt _ (h.place u (by omega))
      · rw [if_neg c]; exact h.ord u v huv (by omega)
    · rw [nn] at hv
      rw [di] at hd
      by_cases c : v = st.n
      · rw [if_pos c] at hd; exact absurd rfl hd
      · rw [if_neg c] at hd
        obtain ⟨d1, ⟨j, hj, ej⟩, d3, d4⟩ := h.dead v (by omega) hd
        refine ⟨d1, ⟨j, mo j hj, by rw [di, if_neg c, ej]⟩, by rw [pl, if_neg c, me _ _ c]; exact d3, fun q hq => ?_⟩
        rw [me _ _ c] at hq
        obtain ⟨m1, m2, m3, m4, m5⟩ := d4 q hq
        rw [pl, if_neg c, di, if_neg c]
        refine ⟨mo q m1, m2, m3, fun x hx hn hd2 => by rw [me _ _ c]; exact m4 x hx hn hd2, fun u hu huv hp => ?_⟩
        rw [nn] at hu
        rw [pl] at hp
        rw [di]
        by_cases cu : u = st.n
        · rw [if_pos cu] at hp
          exact absurd (hp ▸ m1) il
        · rw [if_neg cu] at hp ⊢
          exact m5 u (by omega) huv hp
  · rw [if_neg e] at OK2 OW2 ⊢
    obtain ⟨sn, sd, sx⟩ := near_lt h.ok (least_mem e)
    have lle := @least_le (near st (nb i))
    obtain ⟨s, hs⟩ : ∃ s, least (near st (nb i)) = s := ⟨_, rfl⟩
    have smem := least_mem e
    rw [hs] at OK2 OW2 sn sd lle smem ⊢
    obtain ⟨M, hM⟩ : ∃ M : Nat → Bool, (fun v => (near st (nb i)).contains v && v != s) = M := ⟨_, rfl⟩
    have MT : ∀ v, M v = true ↔ v ∈ near st (nb i) ∧ v ≠ s := fun v => by rw [← hM]; simp
    rw [hM] at OK2 OW2 ⊢
    have Ms : M s = false := by
      cases c : M s with
      | false => rfl
      | true => exact absurd rfl ((MT s).1 c).2
    have ow : ∀ q, (fin i s (part M s (num i) st)).own q = if q = i then some s else (st.own q).map fun v => if M v then s else v := fun q => rfl
    have pl : ∀ v, (fin i s (part M s (num i) st)).place v = st.place v := fun v => rfl
    have di : ∀ v, (fin i s (part M s (num i) st)).dies v = if M v then num i else st.dies v := fun v => rfl
    have bo : ∀ v, (fin i s (part M s (num i) st)).born v = st.born v := fun v => rfl
    have nn : (fin i s (part M s (num i) st)).n = st.n := rfl
    have me : ∀ v q, v ≠ s → (fin i s (part M s (num i) st)).mem v q = st.mem v q := fun v q hv => by simp [fin, part, hv]
    generalize fin i s (part M s (num i) st) = s2 at *
    have nearown : ∀ u, u ∈ near st (nb i) → ∃ x ∈ nb i, st.own x = some u := fun u hu => List.mem_filterMap.1 hu
    -- what joins
    have own2 : ∀ q v, s2.own q = some v → q ≠ i → ∃ u, st.own q = some u ∧ ((v = u ∧ M u = false) ∨ (v = s ∧ M u = true)) := fun q v hq eq => by
      rw [ow, if_neg eq, Option.map_eq_some_iff] at hq
      obtain ⟨u, hu, ev⟩ := hq
      refine ⟨u, hu, ?_⟩
      cases c : M u with
      | false => rw [c] at ev; exact .inl ⟨ev.symm, rfl⟩
      | true => rw [c] at ev; exact .inr ⟨ev.symm, rfl⟩
    have toI : ∀ p, s2.own p = some s → Cn nb (· ∈ l ++ [i]) p i := fun p hp => by
      by_cases ep : p = i
      · rw [ep]; exact .start mi
      · obtain ⟨u, hu, c⟩ := own2 p s hp ep
        have un : u ∈ near st (nb i) := by
          rcases c with ⟨c, _⟩ | ⟨_, c⟩
          · rw [← c]; exact smem
          · exact ((MT u).1 c).1
        obtain ⟨x, hx, ox⟩ := nearown u un
        have xl := h.own_mem ox
        exact .step x i ((h.conn p x u hu ox).mono mo) (sy i x hi (hl x xl) hx) mi
    have syl : ∀ p q, p ∈ l ++ [i] → q ∈ l ++ [i] → q ∈ nb p → p ∈ nb q := fun p q hp hq hn => sy p q (nN p hp) (nN q hq) hn
    refine ⟨OK2, OW2, fun p q v hp hq => ?_, fun p q hp hq hn => ?_, fun v hv => ?_, fun v hv => ?_, fun v hv hd => ?_, fun u v huv hv => ?_, fun v hv hd => ?_⟩
    · by_cases ev : v = s
      · subst ev
        exact (toI p hp).trans ((toI q hq).symm syl)
      · have ep : p ≠ i := fun c => by rw [c, ow, if_pos rfl] at hp; cases hp; exact ev rfl
        have eq : q ≠ i := fun c => by rw [c, ow, if_pos rfl] at hq; cases hq; exact ev rfl
        obtain ⟨u, hu, c⟩ := own2 p v hp ep
        obtain ⟨u', hu', c'⟩ := own2 q v hq eq
        rcases c with ⟨c, _⟩ | ⟨c, _⟩
        · rcases c' with ⟨c', _⟩ | ⟨c', _⟩
          · subst c; subst c'
            exact (h.conn p q _ hu hu').mono mo
          · exact absurd c' ev
        · exact absurd c ev
    · have key : ∀ x, x ∈ nb i → x ∈ l → s2.own x = some s := fun x hx hxl => by
        obtain ⟨u, hu⟩ := h.has hxl
        have un : u ∈ near st (nb i) := List.mem_filterMap.2 ⟨x, hx, hu⟩
        have xi : x ≠ i := fun c => il (by rw [← c]; exact hxl)
        rw [ow, if_neg xi, hu, Option.map_some]
        by_cases c : u = s
        · simp [c]
        · simp [(MT u).2 ⟨un, c⟩]
      by_cases ep : p = i
      · by_cases eq : q = i
        · rw [ep, eq]
        · rw [key q (ep ▸ hn) (by simpa [eq] using hq), ow, if_pos ep]
      · by_cases eq : q = i
        · rw [key p (eq ▸ sy p q (nN p hp) (nN q hq) hn) (by simpa [ep] using hp), ow, if_pos eq]
        · rw [ow, ow, if_neg ep, if_neg eq, h.adj p q (by simpa [ep] using hp) (by simpa [eq] using hq) hn]
    · rw [nn] at hv; rw [pl]; exact mo _ (h.place v hv)
    · rw [nn] at hv; rw [pl, bo]; exact h.born v hv
    · rw [nn] at hv
      rw [di] at hd
      cases c : M v with
      | true => rw [c] at hd; simp at hd; omega
      | false =>
        rw [c] at hd
        have a := h.alive v hv hd
        rw [pl]
        refine ⟨by rw [ow, if_neg (pne v hv), a.1, Option.map_some, c]; rfl, fun q hq => ?_⟩
        by_cases eq : q = i
        · rw [eq]; exact .inr (lt _ (h.place v hv))
        · obtain ⟨u, hu, c2⟩ := own2 q v hq eq
          rcases c2 with ⟨c2, _⟩ | ⟨c2, c3⟩
          · subst c2; exact a.2 q hu
          · subst c2
            have un := (MT u).1 c3
            have a2 := (h.alive u (h.own_lt hu).1 (h.own_lt hu).2).2 q hu
            have o := h.ord v u (by have := lle un.1; omega) (h.own_lt hu).1
            rcases a2 with a2 | a2
            · rw [a2]; exact .inr o
            · exact .inr (ltP_trans o a2)
    · rw [nn] at hv; rw [pl, pl]; exact h.ord u v huv hv
    · rw [nn] at hv
      have hvs : v ≠ s := fun c => by
        rw [di, c, Ms] at hd
        exact hd sd
      cases c : M v with
      | true =>
        have dv : s2.dies v = num i := by rw [di, c]; rfl
        have vn := (MT v).1 c
        obtain ⟨x, hx, ox⟩ := nearown v vn.1
        have al := (h.own_lt ox).2
        have a := h.alive v hv al
        refine ⟨by have := lle vn.1; omega, ⟨i, mi, dv⟩, by rw [me _ _ hvs, pl]; exact (h.ok.mem v hv al _).2 a.1, fun q hq => ?_⟩
        rw [me _ _ hvs] at hq
        have oq := (h.ok.mem v hv al q).1 hq
        have ql := h.own_mem oq
        rw [dv, pl]
        refine ⟨mo q ql, by have := lt q ql; unfold ltP at this; omega, a.2 q oq, fun x hx hn hd2 => ?_, fun u hu huv hp => ?_⟩
        · rw [me _ _ hvs]
          have xl := low x hx (.inl hd2)
          exact (h.ok.mem v hv al x).2 (by rw [← h.adj q x ql xl hn]; exact oq)
        · rw [nn] at hu
          rw [pl] at hp
          rw [di]
          have du : st.dies u ≠ -1 := fun cu => by
            have := (h.alive u hu cu).1
            rw [hp, oq] at this
            cases this
            exact huv rfl
          cases cu : M u with
          | true =>
            obtain ⟨y, _, oy⟩ := nearown u ((MT u).1 cu).1
            exact absurd (h.own_lt oy).2 du
          | false =>
            exact ⟨du, dle u hu du⟩
      | false =>
        have dv : s2.dies v = st.dies v := by rw [di, c]; rfl
        rw [dv] at hd
        obtain ⟨d1, ⟨j, hj, ej⟩, d3, d4⟩ := h.dead v hv hd
        refine ⟨d1, ⟨j, mo j hj, by rw [dv, ej]⟩, by rw [pl, me _ _ hvs]; exact d3, fun q hq => ?_⟩
        rw [me _ _ hvs] at hq
        obtain ⟨m1, m2, m3, m4, m5⟩ := d4 q hq
        rw [pl, dv]
        refine ⟨mo q m1, m2, m3, fun x hx hn hd2 => by rw [me _ _ hvs]; exact m4 x hx hn hd2, fun u hu huv hp => ?_⟩
        rw [nn] at hu
        rw [pl] at hp
        have := m5 u hu huv hp
        rw [di]
        cases cu : M u with
        | true =>
          obtain ⟨y, _, oy⟩ := nearown u ((MT u).1 cu).1
          exact absurd (h.own_lt oy).2 this.1
        | false => exact this
/-- The invariants behind any beginning of the order. -/
theorem fold_inv (sy : ∀ p q, p < N → q < N → q ∈ nb p → p ∈ nb q) (h0 : ∀ i, i < N → 0 ≤ num i) : ∀ {l : List Nat}, l.Pairwise (ltP num) → (∀ j ∈ l, j < N) → (∀ i ∈ l, ∀ j, j < N → ltP num j i → j ∈ l) → Inv nb num N l (fold nb num l) := by
  have G : ∀ m : List Nat, m.reverse.Pairwise (ltP num) → (∀ j ∈ m, j < N) → (∀ i ∈ m, ∀ j, j < N → ltP num j i → j ∈ m) → Inv nb num N m.reverse (fold nb num m.reverse) := by
    intro m
    induction m with
    | nil => intro _ _ _; exact Inv.start
    | cons i m ih =>
      intro hp hN low
      rw [List.reverse_cons] at hp ⊢
      rw [fold_app]
      obtain ⟨p1, _, p3⟩ := List.pairwise_append.1 hp
      have lt : ∀ j ∈ m, ltP num j i := fun j hj => p3 j (List.mem_reverse.2 hj) i (by simp)
      have low2 : ∀ a ∈ m, ∀ j, j < N → ltP num j a → j ∈ m := fun a ha j hj hja => by
        rcases List.mem_cons.1 (low a (List.mem_cons_of_mem _ ha) j hj hja) with e | e
        · subst e; exact absurd hja (ltP_asym (lt a ha))
        · exact e
      refine (ih p1 (fun j hj => hN j (List.mem_cons_of_mem _ hj)) low2).step sy (fun j hj => hN j (List.mem_cons_of_mem _ (List.mem_reverse.1 hj))) (hN i List.mem_cons_self) (h0 i (hN i List.mem_cons_self)) (fun j hj => lt j (List.mem_reverse.1 hj)) (fun j hj hji => ?_)
      rcases List.mem_cons.1 (low i List.mem_cons_self j hj hji) with e | e
      · subst e; exact absurd hji (ltP_irr num j)
      · exact List.mem_reverse.2 e
  intro l h1 h2 h3
  have := G l.reverse (by rw [List.reverse_reverse]; exact h1) (fun j hj => h2 j (List.mem_reverse.1 hj)) (fun a ha j hj hja => List.mem_reverse.2 (h3 a (List.mem_reverse.1 ha) j hj hja))
  rwa [List.reverse_reverse] at this
/-- What stays when further pixels come. -/
theorem fold_more (l : List Nat) : ∀ {r : List Nat}, (l ++ r).Nodup → (∀ i ∈ l ++ r, i < N ∧ 0 ≤ num i) →
    (fold nb num l).n ≤ (fold nb num (l ++ r)).n ∧ (∀ v, v < (fold nb num l).n → (fold nb num (l ++ r)).place v = (fold nb num l).place v ∧ (fold nb num (l ++ r)).born v = (fold nb num l).born v ∧
      ((fold nb num l).dies v ≠ -1 → (fold nb num (l ++ r)).dies v = (fold nb num l).dies v) ∧ ((fold nb num l).dies v = -1 → (fold nb num (l ++ r)).dies v = -1 ∨ ∃ j ∈ r, (fold nb num (l ++ r)).dies v = num j)) ∧
      ∀ v, (fold nb num l).n ≤ v → v < (fold nb num (l ++ r)).n → (fold nb num (l ++ r)).place v ∈ r := by
  have G : ∀ m : List Nat, (l ++ m.reverse).Nodup → (∀ i ∈ l ++ m.reverse, i < N ∧ 0 ≤ num i) →
    (fold nb num l).n ≤ (fold nb num (l ++ m.reverse)).n ∧ (∀ v, v < (fold nb num l).n → (fold nb num (l ++ m.reverse)).place v = (fold nb num l).place v ∧ (fold nb num (l ++ m.reverse)).born v = (fold nb num l).born v ∧
      ((fold nb num l).dies v ≠ -1 → (fold nb num (l ++ m.reverse)).dies v = (fold nb num l).dies v) ∧ ((fold nb num l).dies v = -1 → (fold nb num (l ++ m.reverse)).dies v = -1 ∨ ∃ j ∈ m, (fold nb num (l ++ m.reverse)).dies v = num j)) ∧
      ∀ v, (fold nb num l).n ≤ v → v < (fold nb num (l ++ m.reverse)).n → (fold nb num (l ++ m.reverse)).place v ∈ m := by
    intro m
    induction m with
    | nil =>
      intro _ _
      rw [List.reverse_nil, List.append_nil]
      exact ⟨Nat.le_refl _, fun v _ => ⟨rfl, rfl, fun _ => rfl, fun h => .inl h⟩, fun v h1 h2 => absurd h2 (by omega)⟩
    | cons i m ih =>
      intro hnd hN
      rw [List.reverse_cons, ← List.append_assoc] at hnd hN ⊢
      rw [fold_app]
      have nd1 := (List.nodup_append.1 hnd).1
      have hN1 : ∀ j ∈ l ++ m.reverse, j < N ∧ 0 ≤ num j := fun j hj => hN j (List.mem_append_left _ hj)
      have OK := fold_ok (nb := nb) nd1 hN1
      obtain ⟨a1, a2, a3⟩ := ih nd1 hN1
      generalize fold nb num l = s0 at *
      generalize fold nb num (l ++ m.reverse) = st at *
      have mm : ∀ j, j ∈ m → j ∈ i :: m := fun j hj => List.mem_cons_of_mem _ hj
      unfold stepV
      by_cases e : near st (nb i) = []
      · rw [if_pos e]
        simp only [fin, grow]
        refine ⟨by omega, fun v hv => ?_, fun v h1 h2 => ?_⟩
        · obtain ⟨b1, b2, b3, b4⟩ := a2 v hv
          rw [if_neg (by omega), if_neg (by omega), if_neg (by omega)]
          refine ⟨b1, b2, b3, fun h => (b4 h).imp id ?_⟩
          rintro ⟨j, hj, e⟩
          exact ⟨j, mm j hj, e⟩
        · by_cases c : v = st.n
          · rw [if_pos c]; exact List.mem_cons_self
          · rw [if_neg c]; exact mm _ (a3 v h1 (by omega))
      · rw [if_neg e]
        simp only [fin, Vl.part]
        have MT : ∀ v, ((near st (nb i)).contains v && v != least (near st (nb i))) = true → st.dies v = -1 := fun v hv => by
          rw [Bool.and_eq_true, List.contains_iff_mem] at hv
          exact (near_lt OK hv.1).2.1
        refine ⟨a1, fun v hv => ?_, fun v h1 h2 => mm _ (a3 v h1 h2)⟩
        obtain ⟨b1, b2, b3, b4⟩ := a2 v hv
        refine ⟨b1, b2, fun h => ?_, fun h => ?_⟩
        · split
          · rename_i c
            have := MT v c
            rw [b3 h] at this
            exact absurd this h
          · exact b3 h
        · split
          · exact .inr ⟨i, List.mem_cons_self, rfl⟩
          · refine (b4 h).imp id ?_
            rintro ⟨j, hj, e⟩
            exact ⟨j, mm j hj, e⟩
  intro r h1 h2
  have := G r.reverse (by rw [List.reverse_reverse]; exact h1) (by rw [List.reverse_reverse]; exact h2)
  rw [List.reverse_reverse] at this
  refine ⟨this.1, fun v hv => ?_, fun v h1 h2 => List.mem_reverse.1 (this.2.2 v h1 h2)⟩
  obtain ⟨b1, b2, b3, b4⟩ := this.2.1 v hv
  refine ⟨b1, b2, b3, fun h => (b4 h).imp id ?_⟩
  rintro ⟨j, hj, e⟩
  exact ⟨j, List.mem_reverse.1 hj, e⟩
theorem ordS_split (num : Nat → Int) (N m : Nat) : ∀ k, m ≤ k → ∃ r, ordS num N k = ordS num N m ++ r ∧ ∀ j ∈ r, (m : Int) ≤ num j := by
  intro k
  induction k with
  | zero => intro h; obtain rfl : m = 0 := by omega
            exact ⟨[], by simp, fun j h => by cases h⟩
  | succ k ih =>
    intro h
    by_cases e : m = k + 1
    · subst e; exact ⟨[], by simp, fun j h => by cases h⟩
    · obtain ⟨r, h1, h2⟩ := ih (by omega)
      refine ⟨r ++ lev num k N, by rw [ordS_succ, h1, List.append_assoc], fun j hj => ?_⟩
      rcases List.mem_append.1 hj with hj | hj
      · exact h2 j hj
      · simp only [lev, List.mem_filter, beq_iff_eq] at hj
        omega
end
/-- A pixel that is the least one of all that it reaches over pixels up to a level. -/
def Lst (nb : Nat → List Nat) (num : Nat → Int) (N : Nat) (L : Int) (p : Nat) : Prop :=
  p < N ∧ num p ≤ L ∧ ∀ q, Cn nb (fun j => j < N ∧ num j ≤ L) p q → q = p ∨ ltP num p q
section
variable {nb : Nat → List Nat} {num : Nat → Int} {N : Nat}
theorem Lst.eq (sy : ∀ p q, p < N → q < N → q ∈ nb p → p ∈ nb q) {L : Int} {p q : Nat} (hp : Lst nb num N L p) (hq : Lst nb num N L q) (h : Cn nb (fun j => j < N ∧ num j ≤ L) p q) : p = q := by
  rcases hp.2.2 q h with e | e
  · exact e.symm
  · rcases hq.2.2 p (h.symm fun a b ha hb hn => sy a b ha.1 hb.1 hn) with e2 | e2
    · exact e2
    · exact absurd e (ltP_asym e2)
/-- All numbers are few and not negative: the order has all pixels. -/
theorem ord_low {m : Nat} : ∀ i ∈ ordS num N m, ∀ j, j < N → 0 ≤ num j → ltP num j i → j ∈ ordS num N m := by
  intro i hi j hj h0 hji
  rw [ordS_mem] at hi ⊢
  unfold ltP at hji
  omega
theorem ord_inv (sy : ∀ p q, p < N → q < N → q ∈ nb p → p ∈ nb q) (h0 : ∀ i, i < N → 0 ≤ num i) (m : Nat) : Inv nb num N (ordS num N m) (fold nb num (ordS num N m)) :=
  fold_inv sy h0 (ordS_pw num N m) (fun _ hj => ((ordS_mem _ _ _ _).1 hj).1) (fun i hi j hj hji => ord_low i hi j hj (h0 j hj) hji)
/-- Behind the pixels up to a level: the valleys that have not died are the least pixels. -/
theorem live_lst (sy : ∀ p q, p < N → q < N → q ∈ nb p → p ∈ nb q) (h0 : ∀ i, i < N → 0 ≤ num i) (L : Nat) (p : Nat) :
    Lst nb num N L p ↔ ∃ v, v < (fold nb num (ordS num N (L + 1))).n ∧ (fold nb num (ordS num N (L + 1))).dies v = -1 ∧ (fold nb num (ordS num N (L + 1))).place v = p := by
  have I := ord_inv sy h0 (L + 1)
  have mem : ∀ j, j ∈ ordS num N (L + 1) ↔ j < N ∧ num j ≤ L := fun j => by
    rw [ordS_mem]
    constructor
    · intro h; omega
    · intro h; have := h0 j h.1; omega
  generalize fold nb num (ordS num N (L + 1)) = st at *
  have own_of : ∀ p q, Cn nb (fun j => j < N ∧ num j ≤ (L : Int)) p q → st.own p = st.own q := fun p q h => by
    induction h with
    | start _ => rfl
    | step a b h1 h2 h3 ih => rw [ih]; exact I.adj a b ((mem a).2 h1.mem) ((mem b).2 h3) h2
  constructor
  · rintro ⟨h1, h2, h3⟩
    obtain ⟨v, hv⟩ := I.has ((mem p).2 ⟨h1, h2⟩)
    obtain ⟨vn, vd⟩ := I.own_lt hv
    refine ⟨v, vn, vd, ?_⟩
    have a := I.alive v vn vd
    have c := (I.conn p _ v hv a.1).mono fun x hx => (mem x).1 hx
    rcases h3 _ c with e | e
    · exact e
    · rcases a.2 p hv with e2 | e2
      · exact e2.symm
      · exact absurd e (ltP_asym e2)
  · rintro ⟨v, vn, vd, rfl⟩
    have a := I.alive v vn vd
    have m := (mem _).1 (I.place v vn)
    refine ⟨m.1, m.2, fun q hq => ?_⟩
    have := own_of _ _ hq
    rw [a.1] at this
    exact a.2 q this.symm
/-- What the valleys are: one that lives at a level is a least pixel, and each least pixel is one. -/
theorem val_lst (sy : ∀ p q, p < N → q < N → q ∈ nb p → p ∈ nb q) (h0 : ∀ i, i < N → 0 ≤ num i ∧ num i ≤ 99) (L : Nat) (hL : L ≤ 99) (p : Nat) :
    Lst nb num N L p ↔ ∃ v, v < (fold nb num (ordS num N 100)).n ∧ (fold nb num (ordS num N 100)).place v = p ∧ (fold nb num (ordS num N 100)).born v ≤ L ∧ ((fold nb num (ordS num N 100)).dies v = -1 ∨ (L : Int) < (fold nb num (ordS num N 100)).dies v) := by
  rw [live_lst sy (fun i hi => (h0 i hi).1) L p]
  obtain ⟨r, hr, hj⟩ := ordS_split num N (L + 1) 100 (by omega)
  have nd := ltP_nodup (ordS_pw num N 100)
  have hN : ∀ i ∈ ordS num N 100, i < N ∧ 0 ≤ num i := fun i hi => ⟨((ordS_mem _ _ _ _).1 hi).1, ((ordS_mem _ _ _ _).1 hi).2.1⟩
  have I1 := ord_inv sy (fun i hi => (h0 i hi).1) (L + 1)
  have I2 := ord_inv sy (fun i hi => (h0 i hi).1) 100
  rw [hr] at nd hN I2 ⊢
  obtain ⟨a1, a2, a3⟩ := fold_more (nb := nb) (ordS num N (L + 1)) nd hN
  have mem : ∀ j, j ∈ ordS num N (L + 1) → num j ≤ L := fun j hj => by
    have := (ordS_mem _ _ _ _).1 hj; omega
  generalize fold nb num (ordS num N (L + 1)) = s1 at *
  generalize fold nb num (ordS num N (L + 1) ++ r) = s2 at *
  constructor
  · rintro ⟨v, vn, vd, rfl⟩
    obtain ⟨b1, b2, b3, b4⟩ := a2 v vn
    refine ⟨v, by omega, b1, ?_, (b4 vd).imp id ?_⟩
    · rw [b2, I1.born v vn]; exact mem _ (I1.place v vn)
    · rintro ⟨j, hj2, e⟩
      have := hj j hj2
      omega
  · rintro ⟨v, vn, rfl, vb, vd⟩
    have vn1 : v < s1.n := by
      by_cases c : v < s1.n
      · exact c
      · have := hj _ (a3 v (by omega) vn)
        rw [I2.born v vn] at vb
        omega
    obtain ⟨b1, b2, b3, b4⟩ := a2 v vn1
    refine ⟨v, vn1, ?_, b1.symm⟩
    by_cases c : s1.dies v = -1
    · exact c
    · obtain ⟨j, hj1, e⟩ := (I1.dead v vn1 c).2.1
      have := mem j hj1
      rw [b3 c] at vd
      have h1 := (h0 j ((ordS_mem _ _ _ _).1 hj1).1).1
      omega
end
end Vl
end Go.Proofs.Ytkamkjbllmgifaa

namespace Go.Proofs.Ytkamkjbllmgifaa
open Go.RowKit

/-- One of each class. -/
structure Trv {α : Type} (E : α → α → Prop) (S : α → Prop) (T : List α) : Prop where
  mem : ∀ t ∈ T, S t
  diff : T.Pairwise fun x y => ¬ E x y
  all : ∀ x, S x → ∃ t ∈ T, E t x
section
variable {α β γ : Type}
theorem match_rel (r : α → β → Prop) (f : α → γ) (g : β → γ) : ∀ {L : List α} {M : List β}, L.Pairwise (fun x x' => ∀ y ∈ M, ¬ (r x y ∧ r x' y)) → M.Pairwise (fun y y' => ∀ x ∈ L, ¬ (r x y ∧ r x y')) → (∀ x ∈ L, ∃ y ∈ M, r x y) → (∀ y ∈ M, ∃ x ∈ L, r x y) →
    (∀ x ∈ L, ∀ y ∈ M, r x y → f x = g y) → (L.map f).Perm (M.map g)
  | [], M, _, _, _, h2, _ => by
    cases M with
    | nil => exact List.Perm.refl _
    | cons y M => obtain ⟨x, hx, _⟩ := h2 y (List.mem_cons_self ..); simp at hx
  | x :: L, M, hL, hM, h1, h2, hf => by
    obtain ⟨y, hy, hxy⟩ := h1 x (List.mem_cons_self ..)
    obtain ⟨M1, M2, rfl⟩ := List.append_of_mem hy
    rw [List.pairwise_cons] at hL
    have hM2 : (y :: (M1 ++ M2)).Pairwise (fun y y' => ∀ z ∈ x :: L, ¬ (r z y ∧ r z y')) := by
      refine (List.Perm.pairwise_iff (fun {a b} h z hz k => h z hz ⟨k.2, k.1⟩) ?_).1 hM
      exact List.perm_middle
    rw [List.pairwise_cons] at hM2
    have sub : ∀ z ∈ M1 ++ M2, z ∈ M1 ++ y :: M2 := fun z hz => by
      rcases List.mem_append.1 hz with h | h
      · exact List.mem_append.2 (.inl h)
      · exact List.mem_append.2 (.inr (List.mem_cons_of_mem _ h))
    have hp := match_rel r f g (L := L) (M := M1 ++ M2) (hL.2.imp fun h z hz => h z (sub z hz)) (hM2.2.imp fun h z hz => h z (List.mem_cons_of_mem _ hz)) (fun x' hx' => by
      obtain ⟨y', hy', hs⟩ := h1 x' (List.mem_cons_of_mem _ hx')
      refine ⟨y', ?_, hs⟩
      rcases List.mem_append.1 hy' with h | h
      · exact List.mem_append.2 (.inl h)
      · rcases List.mem_cons.1 h with rfl | h
        · exact absurd ⟨hxy, hs⟩ (hL.1 x' hx' y' hy)
        · exact List.mem_append.2 (.inr h)) (fun y' hy' => by
      obtain ⟨x', hx', hs⟩ := h2 y' (sub y' hy')
      rcases List.mem_cons.1 hx' with rfl | h
      · exact absurd ⟨hxy, hs⟩ (hM2.1 y' hy' x' (List.mem_cons_self ..))
      · exact ⟨x', h, hs⟩) (fun x' hx' y' hy' hs => hf x' (List.mem_cons_of_mem _ hx') y' (sub y' hy') hs)
    have e := hf x (List.mem_cons_self ..) y hy hxy
    rw [List.map_cons, e, List.map_append, List.map_cons]
    refine (List.Perm.cons _ hp).trans ?_
    rw [List.map_append]
    exact List.perm_middle.symm
/-- Two sets whose classes belong to one another have as many. -/
theorem trv_len {E : α → α → Prop} {E' : β → β → Prop} {S : α → Prop} {S' : β → Prop} {T : List α} {T' : List β} (r : α → β → Prop) (h : Trv E S T) (h' : Trv E' S' T')
    (h1 : ∀ x, S x → ∃ y, S' y ∧ r x y) (h2 : ∀ y, S' y → ∃ x, S x ∧ r x y) (hE : ∀ x x' y, S x → S x' → S' y → r x y → r x' y → E x x') (hE' : ∀ x y y', S x → S' y → S' y' → r x y → r x y' → E' y y')
    (hr : ∀ x y y', S x → S' y → S' y' → r x y → E' y' y → r x y') (hr' : ∀ x x' y, S x → S x' → S' y → r x y → E x' x → r x' y) : T.length = T'.length := by
  have p := match_rel r (fun _ => ()) (fun _ => ()) (L := T) (M := T') (by
    refine List.Pairwise.imp_of_mem ?_ h.diff
    exact fun {a b} ha hb hn y hy k => hn (hE a b y (h.mem a ha) (h.mem b hb) (h'.mem y hy) k.1 k.2)) (by
    refine List.Pairwise.imp_of_mem ?_ h'.diff
    exact fun {a b} ha hb hn x hx k => hn (hE' x a b (h.mem x hx) (h'.mem a ha) (h'.mem b hb) k.1 k.2)) (fun x hx => by
    obtain ⟨y, hy, hxy⟩ := h1 x (h.mem x hx)
    obtain ⟨t, ht, hty⟩ := h'.all y hy
    exact ⟨t, ht, hr x y t (h.mem x hx) hy (h'.mem t ht) hxy hty⟩) (fun y hy => by
    obtain ⟨x, hx, hxy⟩ := h2 y (h'.mem y hy)
    obtain ⟨t, ht, htx⟩ := h.all x hx
    exact ⟨t, ht, hr' x t y hx (h.mem t ht) (h'.mem y hy) hxy htx⟩) (fun _ _ _ _ _ => rfl)
  simpa using p.length_eq
theorem Trv.nil {E : α → α → Prop} {S : α → Prop} (h : ∀ x, ¬ S x) : Trv E S [] := ⟨fun _ h => absurd h (by simp), List.Pairwise.nil, fun x hx => absurd hx (h x)⟩
end

/-- The labels of places: one of each class has been given a label of its own. -/
theorem labL_trv (R : (Int × Int) → (Int × Int) → Bool) (l : List (Int × Int)) (hr : ∀ x ∈ l, R x x = true)  :
    ∃ T, Trv (fun x y => R x y = true) (fun x => x ∈ l) T ∧ (labL R l).2 = T.length := by
  have key : ∀ k, k ≤ l.length → ∃ T, Trv (fun x y => R x y = true) (fun x => x ∈ l.take k) T ∧ (labL R (l.take k)).2 = T.length ∧ ∀ z, 0 < (labL R (l.take k)).1 z ↔ ∃ t ∈ T, R t z = true := by
    intro k
    induction k with
    | zero => intro _; exact ⟨[], Trv.nil (by simp), by simp [labL], by simp [labL]⟩
    | succ k ih =>
      intro hk
      obtain ⟨T, h, hn, hz⟩ := ih (by omega)
      have hkl : k < l.length := by omega
      have mt : ∀ t ∈ T, t ∈ l := fun t ht => List.mem_of_mem_take (h.mem t ht)
      have hin : l[k] ∈ l := List.getElem_mem hkl
      rw [labL_succ R l k hkl, labStep, List.take_succ_eq_append_getElem hkl]
      split
      · next hp =>
        obtain ⟨t, htT, htR⟩ := (hz l[k]).1 hp
        refine ⟨T, ⟨fun x hx => List.mem_append.2 (.inl (h.mem x hx)), h.diff, fun x hx => ?_⟩, hn, hz⟩
        rcases List.mem_append.1 hx with hx | hx
        · exact h.all x hx
        · rw [List.mem_singleton.1 hx]; exact ⟨t, htT, htR⟩
      · next hp =>
        have hno : ∀ t ∈ T, ¬ R t l[k] = true := fun t ht e => hp ((hz l[k]).2 ⟨t, ht, e⟩)
        refine ⟨T ++ [l[k]], ⟨fun x hx => ?_, ?_, fun x hx => ?_⟩, by simp [hn], fun z => ?_⟩
        · rcases List.mem_append.1 hx with hx | hx
          · exact List.mem_append.2 (.inl (h.mem x hx))
          · exact List.mem_append.2 (.inr hx)
        · rw [List.pairwise_append]
          refine ⟨h.diff, List.pairwise_singleton _ _, fun x hx y hy => ?_⟩
          rw [List.mem_singleton.1 hy]; exact hno x hx
        · rcases List.mem_append.1 hx with hx | hx
          · obtain ⟨t, ht, e⟩ := h.all x hx
            exact ⟨t, List.mem_append.2 (.inl ht), e⟩
          · rw [List.mem_singleton.1 hx]
            exact ⟨l[k], by simp, hr _ hin⟩
        · simp only
          split
          · next e => exact ⟨fun _ => ⟨l[k], by simp, e⟩, fun _ => by omega⟩
          · next e =>
            rw [hz]
            constructor
            · rintro ⟨t, ht, e2⟩; exact ⟨t, List.mem_append.2 (.inl ht), e2⟩
            · rintro ⟨t, ht, e2⟩
              rcases List.mem_append.1 ht with ht | ht
              · exact ⟨t, ht, e2⟩
              · rw [List.mem_singleton.1 ht] at e2; exact absurd e2 e
  obtain ⟨T, h1, h2, _⟩ := key l.length (Nat.le_refl _)
  rw [List.take_length] at h1 h2
  exact ⟨T, h1, h2⟩
end Go.Proofs.Ytkamkjbllmgifaa

namespace Go.Proofs.Ytkamkjbllmgifaa
open Go.RowKit
open Vl

theorem nbN_iff {W H k q : Nat} (hW : 0 < W) (hk : k < W * H) : q ∈ nbN W H k ↔ adj W (W * H) k q := by
  have e := nbN_nearI W H k
  constructor
  · intro h
    have h2 : ((q : Nat) : Int) ∈ nearI W H k := by rw [e]; exact List.mem_map.2 ⟨q, h, rfl⟩
    obtain ⟨s, h3, h4⟩ := nearI_adj hW hk h2
    have : q = s := by omega
    rw [this]; exact h4
  · intro h
    have := nearI_all hW h
    rw [e] at this
    obtain ⟨s, h3, h4⟩ := List.mem_map.1 this
    have : s = q := by omega
    rw [← this]; exact h3
theorem nbN_sym {W H : Nat} (hW : 0 < W) : ∀ p q, p < W * H → q < W * H → q ∈ nbN W H p → p ∈ nbN W H q := fun _ _ hp hq h => (nbN_iff hW hq).2 ((nbN_iff hW hp).1 h).symm
theorem cn_way {W H : Nat} {G : Nat → Int} (hW : 0 < W) {L : Int} {p q : Nat} : Cn (nbN W H) (fun j => j < W * H ∧ G j ≤ L) p q ↔ Way W (W * H) G (fun i => i = p) L q := by
  constructor
  · intro h
    induction h with
    | start h => exact .start p h.1 rfl h.2
    | step a b h1 h2 h3 ih => exact .step a b ih ((nbN_iff hW h1.mem.1).1 h2) h3.2
  · intro h
    induction h with
    | start i hi hF hG => subst hF; exact .start ⟨hi, hG⟩
    | step a b h1 h2 h3 ih => exact .step a b ih ((nbN_iff hW h2.1).2 h2) ⟨h2.2.1, h3⟩
theorem plc_nbN {W H : Nat} {c d : Int × Int} (hc : inG W H c = true) (hd : inG W H d = true) : d ∈ nbF c ↔ plc W d ∈ nbN W H (plc W c) := by
  have e : ((((plc W c) % W : Nat) : Int), (((plc W c) / W : Nat) : Int)) = c := spt_plc hc
  have e1 : (((plc W c) % W : Nat) : Int) = c.1 := congrArg Prod.fst e
  have e2 : (((plc W c) / W : Nat) : Int) = c.2 := congrArg Prod.snd e
  unfold nbN nbF
  rw [e1, e2]
  constructor
  · intro h
    exact List.mem_map.2 ⟨d, List.mem_filter.2 ⟨by simpa [arL] using h, hd⟩, rfl⟩
  · intro h
    obtain ⟨x, hx, ex⟩ := List.mem_map.1 h
    obtain ⟨h1, h2⟩ := List.mem_filter.1 hx
    have : x = d := by rw [← spt_plc h2, ← spt_plc hd, ex]
    rw [← this]
    simpa [arL] using h1
theorem okI_low {W H : Nat} {G : Nat → Int} {L : Int} {c : Int × Int} : okI (lowB G L (W * H)) W H c = true ↔ inG W H c = true ∧ G (plc W c) ≤ L := by
  have lg : ∀ i, i < W * H → ((lowB G L (W * H)).getD i false = true ↔ G i ≤ L) := fun i hi => by
    simp [lowB, List.getD_eq_getElem?_getD, hi]
  rw [okI_iff]
  constructor
  · rintro ⟨x, y, rfl, hx, hy, hb⟩
    refine ⟨inG_iff.2 (by simp only; omega), ?_⟩
    exact (lg _ (pl_lt hx hy)).1 hb
  · rintro ⟨h1, h2⟩
    obtain ⟨x, y, rfl, hx, hy, h3⟩ := inG_nats h1
    refine ⟨x, y, rfl, hx, hy, (lg _ (pl_lt hx hy)).2 ?_⟩
    rw [h3] at h2; exact h2
theorem rch_cn {W H : Nat} {G : Nat → Int} {L : Int} {c d : Int × Int} (h : Rch nbF (okI (lowB G L (W * H)) W H) c d) : okI (lowB G L (W * H)) W H c = true ∧ okI (lowB G L (W * H)) W H d = true ∧ Cn (nbN W H) (fun j => j < W * H ∧ G j ≤ L) (plc W c) (plc W d) := by
  induction h with
  | start h => exact ⟨h, h, .start ⟨plc_lt (okI_low.1 h).1, (okI_low.1 h).2⟩⟩
  | step p q _ h2 h3 ih =>
    exact ⟨ih.1, h3, .step _ _ ih.2.2 ((plc_nbN (okI_low.1 ih.2.1).1 (okI_low.1 h3).1).1 h2) ⟨plc_lt (okI_low.1 h3).1, (okI_low.1 h3).2⟩⟩
theorem cn_rch {W H : Nat} {G : Nat → Int} {L : Int} (hW : 0 < W) {a b : Nat} (h : Cn (nbN W H) (fun j => j < W * H ∧ G j ≤ L) a b) : Rch nbF (okI (lowB G L (W * H)) W H) (spt W a) (spt W b) := by
  have ok : ∀ j, j < W * H ∧ G j ≤ L → okI (lowB G L (W * H)) W H (spt W j) = true := fun j hj => okI_low.2 ⟨spt_in hW hj.1, by rw [plc_spt]; exact hj.2⟩
  induction h with
  | start h => exact .start (ok _ h)
  | step p q h1 h2 h3 ih =>
    exact .step _ _ ih ((plc_nbN (spt_in hW h1.mem.1) (spt_in hW h3.1)).2 (by rw [plc_spt, plc_spt]; exact h2)) (ok _ h3)
section
variable {nb : Nat → List Nat} {num : Nat → Int} {N : Nat}
/-- Each pixel reaches the least one. -/
theorem lst_ex (sy : ∀ p q, p < N → q < N → q ∈ nb p → p ∈ nb q) (h0 : ∀ i, i < N → 0 ≤ num i) (L : Nat) {x : Nat} (hx : x < N ∧ num x ≤ L) : ∃ p, Lst nb num N L p ∧ Cn nb (fun j => j < N ∧ num j ≤ L) p x := by
  have I := ord_inv sy h0 (L + 1)
  have K := live_lst sy h0 L
  have mem : ∀ j, j ∈ ordS num N (L + 1) ↔ j < N ∧ num j ≤ L := fun j => by
    rw [ordS_mem]
    constructor
    · intro h; omega
    · intro h; have := h0 j h.1; omega
  obtain ⟨v, hv⟩ := I.has ((mem x).2 hx)
  obtain ⟨vn, vd⟩ := I.own_lt hv
  exact ⟨_, (K _).2 ⟨v, vn, vd, rfl⟩, (I.conn _ x v (I.alive v vn vd).1 hv).mono fun y hy => (mem y).1 hy⟩
def liveB (st : VS) (L : Int) (v : Nat) : Bool := decide (st.born v ≤ L) && (decide (st.dies v = -1) || decide (L < st.dies v))
theorem liveB_iff {st : VS} {L : Int} {v : Nat} : liveB st L v = true ↔ st.born v ≤ L ∧ (st.dies v = -1 ∨ L < st.dies v) := by simp [liveB]
theorem live_trv (sy : ∀ p q, p < N → q < N → q ∈ nb p → p ∈ nb q) (h0 : ∀ i, i < N → 0 ≤ num i ∧ num i ≤ 99) (L : Nat) (hL : L ≤ 99) :
    Trv (Cn nb (fun j => j < N ∧ num j ≤ L)) (fun j => j < N ∧ num j ≤ (L : Int)) (((List.range (fold nb num (ordS num N 100)).n).filter (liveB (fold nb num (ordS num N 100)) L)).map (fold nb num (ordS num N 100)).place) := by
  have I := ord_inv sy (fun i hi => (h0 i hi).1) 100
  have V := val_lst sy h0 L hL
  have X := fun x hx => lst_ex (x := x) sy (fun i hi => (h0 i hi).1) L hx
  generalize fold nb num (ordS num N 100) = st at *
  have lv : ∀ v, v ∈ (List.range st.n).filter (liveB st L) ↔ v < st.n ∧ st.born v ≤ L ∧ (st.dies v = -1 ∨ (L : Int) < st.dies v) := fun v => by
    rw [List.mem_filter, List.mem_range, liveB_iff]
  refine ⟨fun t ht => ?_, ?_, fun x hx => ?_⟩
  · obtain ⟨v, hv, rfl⟩ := List.mem_map.1 ht
    have k := (lv v).1 hv
    have := (V _).2 ⟨v, k.1, rfl, k.2⟩
    exact ⟨this.1, this.2.1⟩
  · rw [List.pairwise_map]
    have P : ((List.range st.n).filter (liveB st L)).Pairwise (· < ·) := List.Pairwise.sublist List.filter_sublist List.pairwise_lt_range
    refine P.imp_of_mem fun {u v} hu hv huv c => ?_
    have k1 := (lv u).1 hu
    have k2 := (lv v).1 hv
    have e := Lst.eq sy ((V _).2 ⟨u, k1.1, rfl, k1.2⟩) ((V _).2 ⟨v, k2.1, rfl, k2.2⟩) c
    have o := I.ord u v huv k2.1
    rw [e] at o
    exact ltP_irr _ _ o
  · obtain ⟨p, hp, hc⟩ := X x hx
    obtain ⟨v, h1, h2, h3⟩ := (V p).1 hp
    exact ⟨p, List.mem_map.2 ⟨v, (lv v).2 ⟨h1, h3⟩, h2⟩, hc⟩
end
theorem below_live {rows : List (List Int)} (hok : greyOk rows = true) {L : Nat} (hL : L ≤ 99) : belowN rows L = ((List.range (vSt rows).n).filter (liveB (vSt rows) L)).length := by
  obtain ⟨s1, s2, s3, s4⟩ := tab_sizes hok
  have B := gF_bd hok (rfl : tabW rows = tabW rows)
  have T2 := live_trv (nb := nbN (tabW rows) rows.length) (num := gF rows (tabW rows)) (N := tabW rows * rows.length) (nbN_sym s3) B L hL
  have e : fold (nbN (tabW rows) rows.length) (gF rows (tabW rows)) (ordS (gF rows (tabW rows)) (tabW rows * rows.length) 100) = vSt rows := rfl
  rw [e] at T2
  have OB := okB_I (lowB (gF rows (tabW rows)) L (tabW rows * rows.length)) (W := tabW rows) (H := rows.length) (by omega) (by omega)
  have I : ∀ x, okI (lowB (gF rows (tabW rows)) L (tabW rows * rows.length)) (tabW rows) rows.length x = true → ∀ y, rchB nbF (okI (lowB (gF rows (tabW rows)) L (tabW rows * rows.length)) (tabW rows) rows.length) (tabW rows * rows.length) x y = true ↔ Rch nbF (okI (lowB (gF rows (tabW rows)) L (tabW rows * rows.length)) (tabW rows) rows.length) x y := fun x hx y => rchB_iff OB hx
  have M : ∀ z, z ∈ spB (lowB (gF rows (tabW rows)) L (tabW rows * rows.length)) (tabW rows) (tabW rows * rows.length) ↔ okI (lowB (gF rows (tabW rows)) L (tabW rows * rows.length)) (tabW rows) rows.length z = true := fun z => by rw [spB_mem s3, okI_iff]
  obtain ⟨T, h, hn⟩ := labL_trv (rchB nbF (okI (lowB (gF rows (tabW rows)) L (tabW rows * rows.length)) (tabW rows) rows.length) (tabW rows * rows.length)) (spB (lowB (gF rows (tabW rows)) L (tabW rows * rows.length)) (tabW rows) (tabW rows * rows.length)) (fun x hx => (I x ((M x).1 hx) x).2 (.start ((M x).1 hx)))
  unfold belowN
  rw [hn]
  have sym := fun {a b : Nat} (c : Cn (nbN (tabW rows) rows.length) (fun j => j < tabW rows * rows.length ∧ gF rows (tabW rows) j ≤ (L : Int)) a b) => c.symm fun p q hp hq hn => nbN_sym s3 p q hp.1 hq.1 hn
  generalize vSt rows = st at *
  generalize gF rows (tabW rows) = G at *
  generalize tabW rows = W at *
  generalize rows.length = H at *
  have SI : ∀ x, okI (lowB G L (W * H)) W H x = true → inG W H x = true := fun x hx => (okI_low.1 hx).1
  have len := trv_len (fun z k => Cn (nbN W H) (fun j => j < W * H ∧ G j ≤ (L : Int)) (plc W z) k) h T2 (fun x hx => ?_) (fun y hy => ?_) (fun x x' y hx hx' _ c c' => ?_) (fun x y y' _ _ _ c c' => ?_) (fun x y y' _ _ _ c c' => ?_) (fun x x' y hx hx' _ c c' => ?_)
  · rw [len, List.length_map]
  · have := okI_low.1 ((M x).1 hx)
    exact ⟨plc W x, ⟨plc_lt this.1, this.2⟩, .start ⟨plc_lt this.1, this.2⟩⟩
  · refine ⟨spt W y, (M _).2 (okI_low.2 ⟨spt_in s3 hy.1, by rw [plc_spt]; exact hy.2⟩), ?_⟩
    rw [plc_spt]; exact .start hy
  · have hx := (M x).1 hx
    have hx' := (M x').1 hx'
    have := cn_rch s3 (c.trans (sym c'))
    rw [spt_plc (SI x hx), spt_plc (SI x' hx')] at this
    exact (I x hx x').2 this
  · exact (sym c).trans c'
  · exact c.trans (sym c')
  · have hx' := (M x').1 hx'
    exact (rch_cn ((I x' hx' x).1 c')).2.2.trans c
end Go.Proofs.Ytkamkjbllmgifaa

namespace Go.Proofs.Ytkamkjbllmgifaa
open Go.RowKit
open Vl

theorem grid_cn {W H : Nat} {S : Nat → Prop} (hW : 0 < W) (hS : ∀ j, j < W * H → S j) : ∀ p, p < W * H → Cn (nbN W H) S 0 p := by
  have key : ∀ k p, p ≤ k → p < W * H → Cn (nbN W H) S 0 p := by
    intro k
    induction k with
    | zero =>
      intro p h1 h2
      obtain rfl : p = 0 := by omega
      exact .start (hS 0 h2)
    | succ k ih =>
      intro p h1 h2
      by_cases h0 : p = 0
      · subst h0; exact .start (hS 0 h2)
      obtain ⟨e, hm⟩ := pl_eq p hW
      have hr := pl_row h2
      obtain ⟨x, hx⟩ : ∃ x, p % W = x := ⟨_, rfl⟩
      obtain ⟨y, hy⟩ : ∃ y, p / W = y := ⟨_, rfl⟩
      rw [hx] at e hm
      rw [hy] at e hr
      by_cases hx0 : x = 0
      · have hy0 : 0 < y := by
          rcases Nat.eq_zero_or_pos y with h | h
          · rw [h, hx0] at e; simp at e; exact absurd e h0
          · exact h
        have e2 : (y - 1) * W + W = y * W := by rw [← Nat.succ_mul]; congr 1; omega
        have lt : (y - 1) * W + x < p := by omega
        refine .step ((y - 1) * W + x) p (ih _ (by omega) (by omega)) ((nbN_iff hW (by omega)).2 ?_) (hS p h2)
        refine ⟨by omega, h2, .inl ⟨?_, .inl ?_⟩⟩
        · rw [plM hm, hx]
        · rw [plD hm, hy]; omega
      · have lt : y * W + (x - 1) < p := by omega
        refine .step (y * W + (x - 1)) p (ih _ (by omega) (by omega)) ((nbN_iff hW (by omega)).2 ?_) (hS p h2)
        refine ⟨by omega, h2, .inr ⟨?_, .inl ?_⟩⟩
        · rw [plD (by omega), hy]
        · rw [plM (by omega), hx]; omega
  exact fun p hp => key p p (Nat.le_refl _) hp
def liveRow (L : Int) (r : List Int) : Bool := decide (r.getD 0 0 ≤ L) && (decide (r.getD 2 0 = -1) || decide (L < r.getD 2 0))
def rowV (st : VS) (v : Nat) : List Int := [st.born v, ((st.place v : Nat) : Int), st.dies v]
theorem liveRow_rowV (st : VS) (L : Int) (v : Nat) : liveRow L (rowV st v) = liveB st L v := rfl
theorem last_live (st : VS) (L : Int) : ∀ k, (∀ v, v < k → 0 ≤ st.born v) → ((lastR st k).filter (liveRow L)).length = ((List.range k).filter (liveB st L)).length := by
  intro k
  induction k with
  | zero => intro _; rfl
  | succ k ih =>
    intro h
    have ih := ih fun v hv => h v (by omega)
    have e : (lastR st (k + 1)).filter (liveRow L) = (lastR st k).filter (liveRow L) ++ if liveB st L k then [rowV st k] else [] := by
      by_cases c : st.dies k = st.born k
      · rw [lastR_no c]
        have : liveB st L k = false := by
          have h0 := h k (by omega)
          cases hb : liveB st L k with
          | false => rfl
          | true => have := liveB_iff.1 hb; omega
        rw [this]; simp
      · rw [lastR_yes c, List.filter_append]
        congr 1
        rw [List.filter_cons, List.filter_nil]
        rfl
    rw [e, List.length_append, ih, List.range_succ, List.filter_append, List.length_append, List.filter_cons, List.filter_nil]
    congr 1
    split <;> rfl
/-- The first valley, and the others. -/
theorem lastR_cons {st : VS} {n : Nat} (hn : 0 < n) (h : st.dies 0 ≠ st.born 0) : ∃ R, lastR st n = rowV st 0 :: R ∧ ∀ r ∈ R, ∃ v, 0 < v ∧ v < n ∧ r = rowV st v ∧ st.dies v ≠ st.born v := by
  obtain ⟨m, rfl⟩ : ∃ m, n = m + 1 := ⟨n - 1, by omega⟩
  refine ⟨((List.range m).map Nat.succ).filterMap fun v => if st.dies v == st.born v then none else some [st.born v, ((st.place v : Nat) : Int), st.dies v], ?_, fun r hr => ?_⟩
  · unfold lastR
    rw [List.range_succ_eq_map, List.filterMap_cons]
    have : (st.dies 0 == st.born 0) = false := by simpa using h
    rw [this]
    rfl
  · obtain ⟨v, hv, e⟩ := List.mem_filterMap.1 hr
    obtain ⟨u, hu, rfl⟩ := List.mem_map.1 hv
    rw [List.mem_range] at hu
    split at e
    · cases e
    · rename_i c
      cases e
      exact ⟨u + 1, by omega, by omega, rfl, by simpa using c⟩
/-- What the law asks of the valleys that last. -/
structure ValP (G : Nat → Int) (N : Nat) (R : List (List Int)) (B : Nat → Nat) : Prop where
  pos : 0 < R.length
  few : R.length ≤ 256
  row : ∀ k (h : k < R.length), ∃ (b D : Int) (p : Nat), R[k] = [b, (p : Int), D] ∧ p < N ∧ G p = b ∧ 0 ≤ b ∧ b ≤ 99 ∧ D ≤ 99 ∧ -1 ≤ D ∧ (k = 0 → D = -1) ∧ (0 < k → D ≠ -1 ∧ b < D)
  cnt : ∀ L : Nat, L ≤ 99 → B L = (R.filter (liveRow L)).length
  last : B 99 = 1
theorem valP_of {rows : List (List Int)} (hok : greyOk rows = true) : ValP (gF rows (tabW rows)) (tabW rows * rows.length) (lastR (vSt rows) (vSt rows).n) (fun L => belowN rows L) := by
  obtain ⟨s1, s2, s3, s4⟩ := tab_sizes hok
  have Bd := gF_bd hok (rfl : tabW rows = tabW rows)
  have sy := nbN_sym (W := tabW rows) (H := rows.length) s3
  have I := ord_inv (nb := nbN (tabW rows) rows.length) (num := gF rows (tabW rows)) (N := tabW rows * rows.length) sy (fun i hi => (Bd i hi).1) 100
  have V := val_lst (nb := nbN (tabW rows) rows.length) (num := gF rows (tabW rows)) (N := tabW rows * rows.length) sy Bd 99 (Nat.le_refl _)
  have e : fold (nbN (tabW rows) rows.length) (gF rows (tabW rows)) (ordS (gF rows (tabW rows)) (tabW rows * rows.length) 100) = vSt rows := rfl
  rw [e] at I V
  have BL := fun (L : Nat) (hL : L ≤ 99) => below_live hok hL
  have BD := vSt_bd hok
  have TOP := vSt_top rows
  have NB := vSt_n hok
  have N0 : 0 < tabW rows * rows.length := Nat.mul_pos s3 s1
  have mem : ∀ j, j < tabW rows * rows.length → j ∈ ordS (gF rows (tabW rows)) (tabW rows * rows.length) 100 := fun j hj => by
    rw [ordS_mem]; have := Bd j hj; omega
  have n0 : 0 < (vSt rows).n := by
    obtain ⟨v, hv⟩ := I.has (mem 0 N0)
    have := (I.own_lt hv).1
    omega
  have conn : ∀ p q, p < tabW rows * rows.length → q < tabW rows * rows.length → Cn (nbN (tabW rows) rows.length) (fun j => j < tabW rows * rows.length ∧ gF rows (tabW rows) j ≤ ((99 : Nat) : Int)) p q := fun p q hp hq => by
    have hS : ∀ j, j < tabW rows * rows.length → j < tabW rows * rows.length ∧ gF rows (tabW rows) j ≤ ((99 : Nat) : Int) := fun j hj => ⟨hj, (Bd j hj).2⟩
    exact ((grid_cn s3 hS p hp).symm fun a b ha hb hn => sy a b ha.1 hb.1 hn).trans (grid_cn s3 hS q hq)
  clear e mem
  generalize vSt rows = st at *
  generalize gF rows (tabW rows) = G at *
  generalize nbN (tabW rows) rows.length = nb at *
  generalize ordS G (tabW rows * rows.length) 100 = l at *
  generalize tabW rows * rows.length = N at *
  have d0 : st.dies 0 = -1 := by
    by_cases c : st.dies 0 = -1
    · exact c
    · exact absurd (I.dead 0 n0 c).1 (Nat.lt_irrefl _)
  have b0 := (BD 0 n0).2.1
  have dv : ∀ v, 0 < v → v < st.n → st.dies v ≠ -1 := fun v h0 hv c => by
    have t0 := TOP 0
    have tv := TOP v
    have e := Lst.eq sy ((V _).2 ⟨0, n0, rfl, t0.1, .inl d0⟩) ((V _).2 ⟨v, hv, rfl, tv.1, .inl c⟩) (conn _ _ (BD 0 n0).1 (BD v hv).1)
    have o := I.ord 0 v h0 hv
    rw [e] at o
    exact ltP_irr _ _ o
  obtain ⟨R, hR, hr⟩ := lastR_cons n0 (by omega : st.dies 0 ≠ st.born 0)
  have CN : ∀ L : Nat, L ≤ 99 → belowN rows L = ((lastR st st.n).filter (liveRow L)).length := fun L hL => by
    rw [BL L hL, last_live st L st.n fun v hv => (BD v hv).2.1]
  refine ⟨by rw [hR]; simp, Nat.le_trans (lastR_len _ _) NB, fun k hk => ?_, CN, ?_⟩
  · have hx : ∃ v, v < st.n ∧ (lastR st st.n)[k] = rowV st v ∧ (k = 0 → v = 0) ∧ (0 < k → 0 < v ∧ st.dies v ≠ st.born v) := by
      cases k with
      | zero =>
        refine ⟨0, n0, ?_, fun _ => rfl, fun h => absurd h (Nat.lt_irrefl _)⟩
        simp [hR]
      | succ k =>
        have hk2 : k < R.length := by rw [hR] at hk; simpa using hk
        obtain ⟨v, h1, h2, h3, h4⟩ := hr _ (List.getElem_mem hk2)
        refine ⟨v, h2, ?_, fun h => absurd h (Nat.succ_ne_zero _), fun _ => ⟨h1, h4⟩⟩
        rw [← h3]
        simp [hR]
    obtain ⟨v, h1, h2, h3, h4⟩ := hx
    have b := BD v h1
    have t := TOP v
    refine ⟨st.born v, st.dies v, st.place v, h2, b.1, (I.born v h1).symm, b.2.1, t.1, t.2, by omega, fun h => by rw [h3 h]; exact d0, fun h => ?_⟩
    have := h4 h
    have := dv v this.1 h1
    exact ⟨this, by omega⟩
  · have := CN 99 (Nat.le_refl _)
    show belowN rows ((99 : Nat) : Int) = 1
    rw [this, hR, List.filter_cons]
    have t0 := TOP 0
    have l0 : liveRow ((99 : Nat) : Int) (rowV st 0) = true := by rw [liveRow_rowV, liveB_iff]; exact ⟨t0.1, .inl d0⟩
    rw [if_pos l0]
    have : R.filter (liveRow ((99 : Nat) : Int)) = [] := by
      rw [List.filter_eq_nil_iff]
      intro r hrr
      obtain ⟨v, h1, h2, h3, h4⟩ := hr r hrr
      rw [h3, liveRow_rowV, liveB_iff]
      have := dv v h1 h2
      have := (TOP v).2
      omega
    rw [this]; rfl
end Go.Proofs.Ytkamkjbllmgifaa

namespace Go.Proofs.Ytkamkjbllmgifaa
open Go.RowKit
namespace Vl

theorem fillTo_le (st : VS) (d : Int) (O : Nat → Int) (q : Nat) (L : Int) : ∀ k, fillTo st d O k q ≤ L ↔ O q ≤ L ∧ ∀ v, v < k → skipV st d v = false → st.mem v q = true → st.dies v ≤ L := by
  intro k
  induction k with
  | zero => simp [fillTo]
  | succ k ih =>
    have step : (∀ v, v < k + 1 → skipV st d v = false → st.mem v q = true → st.dies v ≤ L) ↔ (∀ v, v < k → skipV st d v = false → st.mem v q = true → st.dies v ≤ L) ∧ (skipV st d k = false → st.mem k q = true → st.dies k ≤ L) := by
      constructor
      · intro h; exact ⟨fun v hv => h v (by omega), h k (by omega)⟩
      · rintro ⟨h1, h2⟩ v hv
        rcases Nat.lt_succ_iff_lt_or_eq.1 hv with c | c
        · exact h1 v c
        · rw [c]; exact h2
    rw [step, ← and_assoc, ← ih]
    have e : fillTo st d O (k + 1) q = if skipV st d k = true then fillTo st d O k q else if st.mem k q = true then max (fillTo st d O k q) (st.dies k) else fillTo st d O k q := by
      rw [fillTo]; split <;> rfl
    rw [e]
    generalize fillTo st d O k q = x
    cases hs : skipV st d k with
    | true => simp
    | false =>
      cases hm : st.mem k q with
      | true =>
        rw [if_neg (by decide), if_pos rfl]
        have : (false = false → true = true → st.dies k ≤ L) ↔ st.dies k ≤ L := ⟨fun h => h rfl rfl, fun h _ _ => h⟩
        rw [this]
        omega
      | false => simp
theorem fillTo_ge (st : VS) (d : Int) (O : Nat → Int) (q k : Nat) : O q ≤ fillTo st d O k q := ((fillTo_le st d O q _ k).1 (Int.le_refl _)).1
theorem skip_iff {st : VS} {d : Int} {v : Nat} : skipV st d v = true ↔ st.dies v < 0 ∨ d ≤ st.dies v - st.born v := by simp [skipV]
section
variable {nb : Nat → List Nat} {num : Nat → Int} {N : Nat}
/-- Whose set has a pixel has all that it reaches below its death. -/
theorem dead_more {l : List Nat} {st : VS} (I : Inv nb num N l st) {r : Nat} (hr : r < st.n) (hd : st.dies r ≠ -1) {L : Int} (hL : L < st.dies r) {q x : Nat} (hq : st.mem r q = true) (h : Cn nb (fun j => j < N ∧ num j ≤ L) q x) : st.mem r x = true := by
  induction h with
  | start _ => exact hq
  | step p y _ h2 h3 ih => exact (((I.dead r hr hd).2.2.2 p ih).2.2.2.1) y h3.1 h2 (by have := h3.2; omega)
/-- The pixels up to a level of the filled picture: the sets whose oldest valley is left. -/
theorem fill_key (sy : ∀ p q, p < N → q < N → q ∈ nb p → p ∈ nb q) {l : List Nat} {st : VS} (I : Inv nb num N l st) (d : Int) {L : Int} (h0 : ∀ v, v < st.n → st.dies v = -1 ∨ 0 ≤ st.dies v) {v : Nat} (hv : v < st.n) (_hb : st.born v ≤ L) (hd : st.dies v = -1 ∨ L < st.dies v) {q : Nat}
    (hq : Cn nb (fun j => j < N ∧ num j ≤ L) (st.place v) q) : fillTo st d num st.n q ≤ L ↔ skipV st d v = true := by
  rw [fillTo_le]
  constructor
  · rintro ⟨_, h2⟩
    cases hs : skipV st d v with
    | true => rfl
    | false =>
      have ns : ¬ (st.dies v < 0 ∨ d ≤ st.dies v - st.born v) := fun c => by rw [skip_iff.2 c] at hs; cases hs
      have dn : st.dies v ≠ -1 := by omega
      have := h2 v hv hs (dead_more I hv dn (by omega : L < st.dies v) (I.dead v hv dn).2.2.1 hq)
      omega
  · intro hs
    refine ⟨hq.mem.2, fun r hr hs2 hm => ?_⟩
    have ns : ¬ (st.dies r < 0 ∨ d ≤ st.dies r - st.born r) := fun c => by rw [skip_iff.2 c] at hs2; cases hs2
    have dn : st.dies r ≠ -1 := by omega
    by_cases c : st.dies r ≤ L
    · exact c
    · have m := dead_more I hr dn (by omega : L < st.dies r) hm (hq.symm fun a b ha hb hn => sy a b ha.1 hb.1 hn)
      have ne : v ≠ r := fun e => by rw [e, hs2] at hs; cases hs
      obtain ⟨_, _, m3, _, m5⟩ := (I.dead r hr dn).2.2.2 _ m
      have a := m5 v hv ne rfl
      have b1 := I.born r hr
      have b2 := I.born v hv
      have e := skip_iff.1 hs
      have := h0 v hv
      have le : num (st.place r) ≤ num (st.place v) := by
        rcases m3 with e | e
        · rw [e]; exact Int.le_refl _
        · unfold ltP at e; omega
      omega
theorem fill_lst (sy : ∀ p q, p < N → q < N → q ∈ nb p → p ∈ nb q) (hn : ∀ i, i < N → 0 ≤ num i ∧ num i ≤ 99) (d : Int) (L : Nat) (hL : L ≤ 99) (p : Nat) :
    Lst nb (fillTo (fold nb num (ordS num N 100)) d num (fold nb num (ordS num N 100)).n) N L p ↔ ∃ v, v < (fold nb num (ordS num N 100)).n ∧ skipV (fold nb num (ordS num N 100)) d v = true ∧ (fold nb num (ordS num N 100)).place v = p ∧ (fold nb num (ordS num N 100)).born v ≤ L ∧ ((fold nb num (ordS num N 100)).dies v = -1 ∨ (L : Int) < (fold nb num (ordS num N 100)).dies v) := by
  have I := ord_inv sy (fun i hi => (hn i hi).1) 100
  have V := fun (L : Nat) (hL : L ≤ 99) => val_lst sy hn L hL
  have X := fun x hx => lst_ex (x := x) sy (fun i hi => (hn i hi).1) L hx
  have h0 : ∀ v, v < (fold nb num (ordS num N 100)).n → (fold nb num (ordS num N 100)).dies v = -1 ∨ 0 ≤ (fold nb num (ordS num N 100)).dies v := fun v hv => by
    by_cases c : (fold nb num (ordS num N 100)).dies v = -1
    · exact .inl c
    · obtain ⟨j, hj, e⟩ := (I.dead v hv c).2.1
      have := ((ordS_mem _ _ _ _).1 hj).2.1
      exact .inr (by omega)
  have K := fun {L : Int} {v : Nat} hv hb hd {q : Nat} hq => fill_key (L := L) (v := v) (q := q) sy I d h0 hv hb hd hq
  have ge := fun q => fillTo_ge (fold nb num (ordS num N 100)) d num q (fold nb num (ordS num N 100)).n
  generalize fold nb num (ordS num N 100) = st at *
  generalize fillTo st d num st.n = F at *
  have back : ∀ v, v < st.n → skipV st d v = true → st.born v ≤ L → (st.dies v = -1 ∨ (L : Int) < st.dies v) → Lst nb F N L (st.place v) ∧ ∀ q, Cn nb (fun j => j < N ∧ num j ≤ (L : Int)) (st.place v) q → Cn nb (fun j => j < N ∧ F j ≤ (L : Int)) (st.place v) q := by
    intro v hv hs hb hd
    have lst := (V L hL (st.place v)).2 ⟨v, hv, rfl, hb, hd⟩
    have b := I.born v hv
    have pn := hn _ lst.1
    have fp : F (st.place v) = num (st.place v) := by
      have h1 := (K (L := num (st.place v)) hv (by omega) (by omega) (.start ⟨lst.1, Int.le_refl _⟩)).2 hs
      have h2 := ge (st.place v)
      omega
    have up : ∀ q, Cn nb (fun j => j < N ∧ num j ≤ (L : Int)) (st.place v) q → Cn nb (fun j => j < N ∧ F j ≤ (L : Int)) (st.place v) q := fun q hq => by
      induction hq with
      | start h => exact .start ⟨h.1, by rw [fp]; exact h.2⟩
      | step a c h1 h2 h3 ih => exact .step a c ih h2 ⟨h3.1, (K hv hb hd (.step a c h1 h2 h3)).2 hs⟩
    refine ⟨⟨lst.1, by rw [fp]; exact lst.2.1, fun q hq => ?_⟩, up⟩
    have hq2 : Cn nb (fun j => j < N ∧ num j ≤ (L : Int)) (st.place v) q := hq.mono fun x hx => ⟨hx.1, Int.le_trans (ge x) hx.2⟩
    refine (lst.2.2 q hq2).imp id fun h => ?_
    have g := ge q
    unfold ltP at h ⊢
    omega
  constructor
  · intro h
    have pS : p < N ∧ num p ≤ (L : Int) := ⟨h.1, Int.le_trans (ge p) h.2.1⟩
    obtain ⟨p0, h1, h2⟩ := X p pS
    obtain ⟨v, v1, v2, v3, v4⟩ := (V L hL p0).1 h1
    rw [← v2] at h2
    have hs := (K v1 v3 v4 h2).1 h.2.1
    obtain ⟨b1, b2⟩ := back v v1 hs v3 v4
    exact ⟨v, v1, hs, Lst.eq sy b1 h (b2 p h2), v3, v4⟩
  · rintro ⟨v, v1, hs, rfl, v3, v4⟩
    exact (back v v1 hs v3 v4).1
theorem Lst.congr {num' : Nat → Int} (h : ∀ j, j < N → num' j = num j) {L : Int} {p : Nat} (k : Lst nb num N L p) : Lst nb num' N L p := by
  refine ⟨k.1, by rw [h p k.1]; exact k.2.1, fun q hq => ?_⟩
  have := hq.mem.1
  refine (k.2.2 q (hq.mono fun x hx => ⟨hx.1, by rw [← h x hx.1]; exact hx.2⟩)).imp id fun c => ?_
  unfold ltP at c ⊢
  rw [h p k.1, h q this]
  exact c
end
/-- What bounds the valleys of a picture. -/
structure VBd (st : VS) : Prop where
  inj : ∀ u v, u < st.n → v < st.n → st.place u = st.place v → u = v
  bd : ∀ v, v < st.n → 0 ≤ st.born v ∧ st.born v ≤ 99 ∧ st.dies v ≤ 99 ∧ (st.dies v = -1 ∨ st.born v ≤ st.dies v)
theorem row_tr {P P' : Nat → Prop} {s t : VS} (hs : VBd s) (ht : VBd t)
    (E : ∀ L : Nat, L ≤ 99 → ∀ p, (∃ v, v < s.n ∧ P v ∧ s.place v = p ∧ s.born v ≤ L ∧ (s.dies v = -1 ∨ (L : Int) < s.dies v)) ↔ ∃ v, v < t.n ∧ P' v ∧ t.place v = p ∧ t.born v ≤ L ∧ (t.dies v = -1 ∨ (L : Int) < t.dies v)) :
    ∀ v, v < s.n → P v → s.dies v ≠ s.born v → ∃ u, u < t.n ∧ P' u ∧ t.dies u ≠ t.born u ∧ rowV t u = rowV s v := by
  intro v hv hP hne
  obtain ⟨b0, b1, d1, d2⟩ := hs.bd v hv
  obtain ⟨B, hB⟩ := Int.eq_ofNat_of_zero_le b0
  obtain ⟨u, u1, u2, u3, u4, u5⟩ := (E B (by omega) (s.place v)).1 ⟨v, hv, hP, rfl, by omega, by omega⟩
  obtain ⟨c0, c1, e1, e2⟩ := ht.bd u u1
  have only : ∀ u', u' < t.n → t.place u' = s.place v → u' = u := fun u' h1 h2 => ht.inj u' u h1 u1 (h2.trans u3.symm)
  have only2 : ∀ v', v' < s.n → s.place v' = s.place v → v' = v := fun v' h1 h2 => hs.inj v' v h1 hv h2
  obtain ⟨C, hC⟩ := Int.eq_ofNat_of_zero_le c0
  obtain ⟨v', w1, _, w3, w4, _⟩ := (E C (by omega) (s.place v)).2 ⟨u, u1, u2, u3, by omega, by omega⟩
  rw [only2 v' w1 w3] at w4
  have eb : t.born u = s.born v := by omega
  have ed : t.dies u = s.dies v := by
    by_cases c : s.dies v = -1
    · obtain ⟨u', x1, _, x3, _, x5⟩ := (E 99 (Nat.le_refl _) (s.place v)).1 ⟨v, hv, hP, rfl, b1, .inl c⟩
      rw [only u' x1 x3] at x5
      omega
    · obtain ⟨D, hD⟩ : ∃ D : Nat, s.dies v = D := Int.eq_ofNat_of_zero_le (by omega)
      obtain ⟨u', x1, _, x3, _, x5⟩ := (E (D - 1) (by omega) (s.place v)).1 ⟨v, hv, hP, rfl, by omega, by omega⟩
      rw [only u' x1 x3] at x5
      by_cases k : t.dies u = -1 ∨ (D : Int) < t.dies u
      · obtain ⟨v2, y1, _, y3, _, y5⟩ := (E D (by omega) (s.place v)).2 ⟨u, u1, u2, u3, by omega, k⟩
        rw [only2 v2 y1 y3] at y5
        omega
      · omega
  exact ⟨u, u1, u2, by rw [eb, ed]; exact hne, by unfold rowV; rw [eb, ed, u3]⟩
theorem lastR_map (st : VS) : ∀ k, lastR st k = ((List.range k).filter fun v => !(st.dies v == st.born v)).map (rowV st) := by
  intro k
  induction k with
  | zero => rfl
  | succ k ih =>
    rw [List.range_succ, List.filter_append, List.map_append, ← ih]
    by_cases c : st.dies k = st.born k
    · rw [lastR_no c]; simp [c]
    · rw [lastR_yes c]; simp [c, rowV]
theorem lastR_mem {st : VS} {k : Nat} {r : List Int} : r ∈ lastR st k ↔ ∃ v, v < k ∧ st.dies v ≠ st.born v ∧ r = rowV st v := by
  rw [lastR_map, List.mem_map]
  constructor
  · rintro ⟨v, h, rfl⟩
    rw [List.mem_filter, List.mem_range] at h
    exact ⟨v, h.1, by simpa using h.2, rfl⟩
  · rintro ⟨v, h1, h2, rfl⟩
    exact ⟨v, by rw [List.mem_filter, List.mem_range]; exact ⟨h1, by simpa using h2⟩, rfl⟩
def rowLt (r s : List Int) : Prop := r.getD 0 0 < s.getD 0 0 ∨ (r.getD 0 0 = s.getD 0 0 ∧ r.getD 1 0 < s.getD 1 0)
theorem lastR_pw {nb : Nat → List Nat} {num : Nat → Int} {N : Nat} {l : List Nat} {st : VS} (I : Inv nb num N l st) : (lastR st st.n).Pairwise rowLt := by
  rw [lastR_map, List.pairwise_map]
  have P : ((List.range st.n).filter fun v => !(st.dies v == st.born v)).Pairwise (· < ·) := List.Pairwise.sublist List.filter_sublist List.pairwise_lt_range
  refine P.imp_of_mem fun {u v} hu hv huv => ?_
  rw [List.mem_filter, List.mem_range] at hu hv
  have o := I.ord u v huv hv.1
  have e1 := I.born u hu.1
  have e2 := I.born v hv.1
  unfold ltP at o
  simp only [rowLt, rowV, List.getD_cons_zero, List.getD_cons_succ]
  omega
def deepRow (d : Int) (r : List Int) : Bool := decide (r.getD 2 0 = -1) || decide (d ≤ r.getD 2 0 - r.getD 0 0)
end Vl
open Vl
theorem vSt_inv {rows : List (List Int)} (hok : greyOk rows = true) : Inv (nbN (tabW rows) rows.length) (gF rows (tabW rows)) (tabW rows * rows.length) (ordS (gF rows (tabW rows)) (tabW rows * rows.length) 100) (vSt rows) :=
  ord_inv (nbN_sym (tab_sizes hok).2.2.1) (fun i hi => (gF_bd hok (rfl : tabW rows = tabW rows) i hi).1) 100
theorem vSt_vbd {rows : List (List Int)} (hok : greyOk rows = true) : VBd (vSt rows) := by
  have I := vSt_inv hok
  refine ⟨fun u v hu hv e => ?_, fun v hv => ?_⟩
  · rcases Nat.lt_trichotomy u v with h | h | h
    · have o := I.ord u v h hv
      rw [e] at o
      exact absurd o (ltP_irr _ _)
    · exact h
    · have o := I.ord v u h hu
      rw [e] at o
      exact absurd o (ltP_irr _ _)
  · have b := vSt_bd hok v hv
    have t := vSt_top rows v
    exact ⟨b.2.1, t.1, t.2, b.2.2⟩
end Go.Proofs.Ytkamkjbllmgifaa
