/- One of each class of a relation, and how many there are; the code of a tree of parts has two brackets for each part, is as deep as told, and is that of each picture with the same parts. Plain. Pictures with the same parts have the same tree; each picture has one; a framed picture's parts; a pixel that can go. Plain. The framed picture's tree, plain. The tree of a framed picture: its length, its brackets, and pictures that have the same one. Plain. How many components and holes a picture has, plain. A pixel whose black and white neighbours are of one part each can go: the numbers of components and holes and the tree stay. Plain. -/
import Derived.Test.YtdhajndmebnknaaGreatTopS
import Derived.Test.YtdhajndmebnknaaGreatTopL
import Derived.Test.YtdhajndmebnknaaGreatLab
namespace Go.Proofs.YtdhajndmebnknaaGreat
open Go.RowKit

/-- One of each class. -/
structure Trv {α : Type} (E : α → α → Prop) (S : α → Prop) (T : List α) : Prop where
  mem : ∀ t ∈ T, S t
  diff : T.Pairwise fun x y => ¬ E x y
  all : ∀ x, S x → ∃ t ∈ T, E t x
section
variable {α β γ : Type}
theorem match_rel (r : α → β → Prop) (f : α → γ) (g : β → γ) : ∀ {L : List α} {M : List β}, L.Pairwise (fun x x' => ∀ y ∈ M, ¬ (r x y ∧ r x' y)) → M.Pairwise (fun y y' => ∀ x ∈ L, ¬ (r x y ∧ r x y')) → (∀ x ∈ L, ∃ y ∈ M, r x y) → (∀ y ∈ M, ∃ x ∈ L, r x y) →
    (∀ x ∈ L, ∀ y ∈ M, r x y → f x = g y) → (L.map f).Perm (M.map g)
  | [], M, _, _, _, h2, _ => by
    cases M with
    | nil => exact List.Perm.refl _
    | cons y M => obtain ⟨x, hx, _⟩ := h2 y (List.mem_cons_self ..); simp at hx
  | x :: L, M, hL, hM, h1, h2, hf => by
    obtain ⟨y, hy, hxy⟩ := h1 x (List.mem_cons_self ..)
    obtain ⟨M1, M2, rfl⟩ := List.append_of_mem hy
    rw [List.pairwise_cons] at hL
    have hM2 : (y :: (M1 ++ M2)).Pairwise (fun y y' => ∀ z ∈ x :: L, ¬ (r z y ∧ r z y')) := by
      refine (List.Perm.pairwise_iff (fun {a b} h z hz k => h z hz ⟨k.2, k.1⟩) ?_).1 hM
      exact List.perm_middle
    rw [List.pairwise_cons] at hM2
    have sub : ∀ z ∈ M1 ++ M2, z ∈ M1 ++ y :: M2 := fun z hz => by
      rcases List.mem_append.1 hz with h | h
      · exact List.mem_append.2 (.inl h)
      · exact List.mem_append.2 (.inr (List.mem_cons_of_mem _ h))
    have hp := match_rel r f g (L := L) (M := M1 ++ M2) (hL.2.imp fun h z hz => h z (sub z hz)) (hM2.2.imp fun h z hz => h z (List.mem_cons_of_mem _ hz)) (fun x' hx' => by
      obtain ⟨y', hy', hs⟩ := h1 x' (List.mem_cons_of_mem _ hx')
      refine ⟨y', ?_, hs⟩
      rcases List.mem_append.1 hy' with h | h
      · exact List.mem_append.2 (.inl h)
      · rcases List.mem_cons.1 h with rfl | h
        · exact absurd ⟨hxy, hs⟩ (hL.1 x' hx' y' hy)
        · exact List.mem_append.2 (.inr h)) (fun y' hy' => by
      obtain ⟨x', hx', hs⟩ := h2 y' (sub y' hy')
      rcases List.mem_cons.1 hx' with rfl | h
      · exact absurd ⟨hxy, hs⟩ (hM2.1 y' hy' x' (List.mem_cons_self ..))
      · exact ⟨x', h, hs⟩) (fun x' hx' y' hy' hs => hf x' (List.mem_cons_of_mem _ hx') y' (sub y' hy') hs)
    have e := hf x (List.mem_cons_self ..) y hy hxy
    rw [List.map_cons, e, List.map_append, List.map_cons]
    refine (List.Perm.cons _ hp).trans ?_
    rw [List.map_append]
    exact List.perm_middle.symm
/-- Two sets whose classes belong to one another have as many. -/
theorem trv_len {E : α → α → Prop} {E' : β → β → Prop} {S : α → Prop} {S' : β → Prop} {T : List α} {T' : List β} (r : α → β → Prop) (h : Trv E S T) (h' : Trv E' S' T')
    (h1 : ∀ x, S x → ∃ y, S' y ∧ r x y) (h2 : ∀ y, S' y → ∃ x, S x ∧ r x y) (hE : ∀ x x' y, S x → S x' → S' y → r x y → r x' y → E x x') (hE' : ∀ x y y', S x → S' y → S' y' → r x y → r x y' → E' y y')
    (hr : ∀ x y y', S x → S' y → S' y' → r x y → E' y' y → r x y') (hr' : ∀ x x' y, S x → S x' → S' y → r x y → E x' x → r x' y) : T.length = T'.length := by
  have p := match_rel r (fun _ => ()) (fun _ => ()) (L := T) (M := T') (by
    refine List.Pairwise.imp_of_mem ?_ h.diff
    exact fun {a b} ha hb hn y hy k => hn (hE a b y (h.mem a ha) (h.mem b hb) (h'.mem y hy) k.1 k.2)) (by
    refine List.Pairwise.imp_of_mem ?_ h'.diff
    exact fun {a b} ha hb hn x hx k => hn (hE' x a b (h.mem x hx) (h'.mem a ha) (h'.mem b hb) k.1 k.2)) (fun x hx => by
    obtain ⟨y, hy, hxy⟩ := h1 x (h.mem x hx)
    obtain ⟨t, ht, hty⟩ := h'.all y hy
    exact ⟨t, ht, hr x y t (h.mem x hx) hy (h'.mem t ht) hxy hty⟩) (fun y hy => by
    obtain ⟨x, hx, hxy⟩ := h2 y (h'.mem y hy)
    obtain ⟨t, ht, htx⟩ := h.all x hx
    exact ⟨t, ht, hr' x t y hx (h.mem t ht) (h'.mem y hy) hxy htx⟩) (fun _ _ _ _ _ => rfl)
  simpa using p.length_eq
/-- What two sets that do not meet have together. -/
theorem Trv.or {E : α → α → Prop} {S S' : α → Prop} {T T' : List α} (h : Trv E S T) (h' : Trv E S' T') (hd : ∀ x y, S x → S' y → ¬ E x y) : Trv E (fun x => S x ∨ S' x) (T ++ T') := by
  refine ⟨fun t ht => (List.mem_append.1 ht).imp (h.mem t) (h'.mem t), ?_, fun x hx => ?_⟩
  · rw [List.pairwise_append]
    exact ⟨h.diff, h'.diff, fun x hx y hy => hd x y (h.mem x hx) (h'.mem y hy)⟩
  · rcases hx with hx | hx
    · obtain ⟨t, ht, e⟩ := h.all x hx
      exact ⟨t, List.mem_append.2 (.inl ht), e⟩
    · obtain ⟨t, ht, e⟩ := h'.all x hx
      exact ⟨t, List.mem_append.2 (.inr ht), e⟩
theorem Trv.congr {E : α → α → Prop} {S S' : α → Prop} {T : List α} (h : Trv E S T) (hs : ∀ x, S' x ↔ S x) : Trv E S' T :=
  ⟨fun t ht => (hs t).2 (h.mem t ht), h.diff, fun x hx => h.all x ((hs x).1 hx)⟩
theorem Trv.nil {E : α → α → Prop} {S : α → Prop} (h : ∀ x, ¬ S x) : Trv E S [] := ⟨fun _ h => absurd h (by simp), List.Pairwise.nil, fun x hx => absurd hx (h x)⟩
end

/-- The labels of places: one of each class has been given a label of its own. -/
theorem labL_trv (R : Cell → Cell → Bool) (l : List Cell) (hr : ∀ x ∈ l, R x x = true)  :
    ∃ T, Trv (fun x y => R x y = true) (fun x => x ∈ l) T ∧ (labL R l).2 = T.length := by
  have key : ∀ k, k ≤ l.length → ∃ T, Trv (fun x y => R x y = true) (fun x => x ∈ l.take k) T ∧ (labL R (l.take k)).2 = T.length ∧ ∀ z, 0 < (labL R (l.take k)).1 z ↔ ∃ t ∈ T, R t z = true := by
    intro k
    induction k with
    | zero => intro _; exact ⟨[], Trv.nil (by simp), by simp [labL], by simp [labL]⟩
    | succ k ih =>
      intro hk
      obtain ⟨T, h, hn, hz⟩ := ih (by omega)
      have hkl : k < l.length := by omega
      have mt : ∀ t ∈ T, t ∈ l := fun t ht => List.mem_of_mem_take (h.mem t ht)
      have hin : l[k] ∈ l := List.getElem_mem hkl
      rw [labL_succ R l k hkl, labStep, List.take_succ_eq_append_getElem hkl]
      split
      · next hp =>
        obtain ⟨t, htT, htR⟩ := (hz l[k]).1 hp
        refine ⟨T, ⟨fun x hx => List.mem_append.2 (.inl (h.mem x hx)), h.diff, fun x hx => ?_⟩, hn, hz⟩
        rcases List.mem_append.1 hx with hx | hx
        · exact h.all x hx
        · rw [List.mem_singleton.1 hx]; exact ⟨t, htT, htR⟩
      · next hp =>
        have hno : ∀ t ∈ T, ¬ R t l[k] = true := fun t ht e => hp ((hz l[k]).2 ⟨t, ht, e⟩)
        refine ⟨T ++ [l[k]], ⟨fun x hx => ?_, ?_, fun x hx => ?_⟩, by simp [hn], fun z => ?_⟩
        · rcases List.mem_append.1 hx with hx | hx
          · exact List.mem_append.2 (.inl (h.mem x hx))
          · exact List.mem_append.2 (.inr hx)
        · rw [List.pairwise_append]
          refine ⟨h.diff, List.pairwise_singleton _ _, fun x hx y hy => ?_⟩
          rw [List.mem_singleton.1 hy]; exact hno x hx
        · rcases List.mem_append.1 hx with hx | hx
          · obtain ⟨t, ht, e⟩ := h.all x hx
            exact ⟨t, List.mem_append.2 (.inl ht), e⟩
          · rw [List.mem_singleton.1 hx]
            exact ⟨l[k], by simp, hr _ hin⟩
        · simp only
          split
          · next e => exact ⟨fun _ => ⟨l[k], by simp, e⟩, fun _ => by omega⟩
          · next e =>
            rw [hz]
            constructor
            · rintro ⟨t, ht, e2⟩; exact ⟨t, List.mem_append.2 (.inl ht), e2⟩
            · rintro ⟨t, ht, e2⟩
              rcases List.mem_append.1 ht with ht | ht
              · exact ⟨t, ht, e2⟩
              · rw [List.mem_singleton.1 ht] at e2; exact absurd e2 e
  obtain ⟨T, h1, h2, _⟩ := key l.length (Nat.le_refl _)
  rw [List.take_length] at h1 h2
  exact ⟨T, h1, h2⟩
section
variable {P : Pc} {a b : Cell} {o : Option Cell}
theorem sd_parts {L : List Kid} (K : P.Kids o a L) (ha : P.has a) (ho : ¬ P.SameO o a) (hadj : ∀ p, o = some p → P.Adj p a) {x : Cell} : P.Sd o a x ↔ P.Same a x ∨ ∃ e ∈ L, P.Sd (some a) e.1 x := by
  constructor
  · intro h
    induction h with
    | start h1 h2 => exact .inl (.start h1)
    | same u v _ k ih =>
      rcases ih with h | ⟨e, he, hs⟩
      · exact .inl (h.trans k)
      · exact .inr ⟨e, he, .same u v hs k⟩
    | adj u v hu h1 h2 h3 ih =>
      by_cases hv : P.Same a v
      · exact .inl hv
      rcases ih with h | ⟨e, he, hs⟩
      · have hc : P.col v ≠ P.col a := fun e => hv (h.trans (same4 hu.has' h1 h2 (by rw [e, h.col])))
        obtain ⟨e, he, hev⟩ := K.all u v h h2 h1 hc h3
        exact .inr ⟨e, he, .same e.1 v (.start (K.adj e he).2.2 (K.adj e he).1.not) hev⟩
      · exact .inr ⟨e, he, .adj u v hs h1 h2 hv⟩
  · rintro (h | ⟨e, he, hs⟩)
    · exact .same a x (.start ha ho) h
    · exact sd_sub (K.adj e he).1 ha ho (K.adj e he).2.1 hadj hs
/-- A code has two brackets for each part. -/
theorem nd_len : ∀ (n : Nat) (o : Option Cell) (a : Cell) (c : Txt) (d : Nat), P.Nd n o a c d → P.has a → ¬ P.SameO o a → (∀ p, o = some p → P.Adj p a) → ∃ T, Trv P.Same (P.Sd o a) T ∧ c.length = 2 * T.length := by
  intro n
  induction n with
  | zero => intro o a c d h; exact absurd h (fun h => h)
  | succ n ih =>
    rintro o a c d ⟨L, K, hL, rfl, rfl⟩ ha ho hadj
    have key : ∀ M : List Kid, M.Sublist L → ∃ T, Trv P.Same (fun x => P.Same a x ∨ ∃ e ∈ M, P.Sd (some a) e.1 x) T ∧ (M.map fun e => e.2.1.length).sum + 2 = 2 * T.length := by
      intro M
      induction M with
      | nil =>
        intro _
        refine ⟨[a], ⟨fun t ht => .inl (by rw [List.mem_singleton.1 ht]; exact .start ha), List.pairwise_singleton _ _, fun x hx => ?_⟩, by simp⟩
        rcases hx with h | ⟨e, he, _⟩
        · exact ⟨a, by simp, h⟩
        · simp at he
      | cons e M ih2 =>
        intro hsub
        obtain ⟨T, h, hn⟩ := ih2 ((List.sublist_cons_self e M).trans hsub)
        have he : e ∈ L := hsub.subset (List.mem_cons_self ..)
        obtain ⟨h1, h2, h3⟩ := K.adj e he
        obtain ⟨T', h', hn'⟩ := ih (some a) e.1 _ _ (hL e he) h3 h1.not (fun p hp => by cases hp; exact h1)
        have hdf := K.diff.sublist hsub
        rw [List.pairwise_cons] at hdf
        refine ⟨T' ++ T, (h'.or h fun x y hx hy k => ?_).congr fun x => ?_, ?_⟩
        · rcases hy with hy | ⟨e', he', hy⟩
          · exact hx.no (hy.trans k.symm)
          · exact hdf.1 e' he' (sd_meet h1 (K.adj e' (hsub.subset (List.mem_cons_of_mem _ he'))).1 (.same x y hx k) hy)
        · constructor
          · rintro (h | ⟨e', he', h⟩)
            · exact .inr (.inl h)
            · rcases List.mem_cons.1 he' with rfl | he'
              · exact .inl h
              · exact .inr (.inr ⟨e', he', h⟩)
          · rintro (h | h | ⟨e', he', h⟩)
            · exact .inr ⟨e, List.mem_cons_self .., h⟩
            · exact .inl h
            · exact .inr ⟨e', List.mem_cons_of_mem _ he', h⟩
        · rw [List.map_cons, List.sum_cons, List.length_append]
          omega
    obtain ⟨T, h, hn⟩ := key L (List.Sublist.refl _)
    refine ⟨T, h.congr fun x => sd_parts K ha ho hadj, ?_⟩
    rw [wrap_len, List.map_map, ← hn]
    rfl
/-- Brackets, read from the left: how many are open, and the most so far; none where more are closed than open. -/
def brk (k m : Int) : Txt → Option (Int × Int)
  | [] => some (k, m)
  | b :: t =>
    if (if b = 40 then k + 1 else k - 1) < 0 then none else brk (if b = 40 then k + 1 else k - 1) (max m (if b = 40 then k + 1 else k - 1)) t
theorem brk_flat : ∀ (cs : List Txt) (ds : List Nat) (_ : cs.length = ds.length) (_ : ∀ i (h1 : i < cs.length) (h2 : i < ds.length), ∀ (k m : Int) (t : Txt), 0 ≤ k → k ≤ m → brk k m (cs[i] ++ t) = brk k (max m (k + ds[i] + 1)) t)
    (k m : Int) (t : Txt) (_ : 0 ≤ k) (_ : k ≤ m), brk k m (cs.flatten ++ t) = brk k (max m (k + deepC ds)) t
  | [], [], _, _, k, m, t, h0, hm => by
    have : max m (k + ((deepC [] : Nat) : Int)) = m := by simp [deepC]; omega
    rw [this]; rfl
  | c :: cs, d :: ds, hl, h, k, m, t, h0, hm => by
    rw [List.flatten_cons, List.append_assoc]
    have e := h 0 (by simp) (by simp) k m (cs.flatten ++ t) h0 hm
    simp only [List.getElem_cons_zero] at e
    rw [e, brk_flat cs ds (by simpa using hl) (fun i h1 h2 => by
      have := h (i + 1) (by simpa using h1) (by simpa using h2)
      simpa using this) k _ t h0 (by omega)]
    congr 1
    rw [deepC]
    omega
  | [], d :: ds, hl, _, _, _, _, _, _ => by simp at hl
  | c :: cs, [], hl, _, _, _, _, _, _ => by simp at hl
/-- A code's brackets. -/
theorem nd_brk : ∀ (n : Nat) (o : Option Cell) (a : Cell) (c : Txt) (d : Nat), P.Nd n o a c d → ∀ (k m : Int) (t : Txt), 0 ≤ k → k ≤ m → brk k m (c ++ t) = brk k (max m (k + d + 1)) t := by
  intro n
  induction n with
  | zero => intro o a c d h; exact absurd h (fun h => h)
  | succ n ih =>
    rintro o a c d ⟨L, K, hL, rfl, rfl⟩ k m t h0 hm
    -- the kids in the order of their codes
    obtain ⟨M, hM1, hM2⟩ : ∃ M : List (Txt × Nat), M.Perm (L.map fun e => (e.2.1, e.2.2)) ∧ srtC (L.map fun e => e.2.1) = M.map (·.1) := by
      refine ⟨(L.map fun e => (e.2.1, e.2.2)).mergeSort (fun x y => decide (x.1 ≤ y.1)), List.mergeSort_perm _ _, ?_⟩
      refine srt_of ?_ ?_
      · have := (List.mergeSort_perm (L.map fun e => (e.2.1, e.2.2)) (fun x y => decide (x.1 ≤ y.1))).map (fun x : Txt × Nat => x.1)
        rw [List.map_map] at this
        exact this
      · rw [List.pairwise_map]
        have := List.pairwise_mergeSort (le := fun x y : Txt × Nat => decide (x.1 ≤ y.1)) (fun a b c => le_tr a.1 b.1 c.1) (fun a b => le_tot a.1 b.1) (L.map fun e => (e.2.1, e.2.2))
        exact this.imp fun h => of_decide_eq_true h
    have hd : deepC (L.map fun e => e.2.2) = deepC (M.map (·.2)) := by
      refine deepC_perm ?_
      have := (hM1.map (fun x : Txt × Nat => x.2)).symm
      rw [List.map_map] at this
      exact this
    rw [wrapC, hM2, hd, List.cons_append, List.append_assoc, brk]
    have e0 : (if (40 : UInt8) = 40 then k + 1 else k - 1) = k + 1 := if_pos rfl
    rw [e0, if_neg (by omega)]
    rw [brk_flat (M.map (·.1)) (M.map (·.2)) (by simp) (fun i h1 h2 k m t => by
      have hin : M[i]'(by simpa using h1) ∈ L.map fun e => (e.2.1, e.2.2) := hM1.subset (List.getElem_mem _)
      obtain ⟨e, he, hee⟩ := List.mem_map.1 hin
      have := ih (some a) e.1 _ _ (hL e he) k m t
      have e2 : (M.map (·.1))[i] = e.2.1 := by simp [← hee]
      have e3 : (M.map (·.2))[i] = e.2.2 := by simp [← hee]
      rw [e2, e3]
      exact this) (k + 1) _ _ (by omega) (by omega)]
    rw [List.singleton_append, brk]
    have e5 : (if (41 : UInt8) = 40 then k + 1 + 1 else k + 1 - 1) = k := by rw [if_neg (by decide)]; omega
    rw [e5, if_neg (by omega)]
    congr 1
    omega
end
end Go.Proofs.YtdhajndmebnknaaGreat

namespace Go.Proofs.YtdhajndmebnknaaGreat
open Go.RowKit

theorem divU {W x y : Nat} (hx : x < W) : (y * W + x) / W = y := by
  rw [Nat.mul_comm, Nat.mul_add_div (by omega), Nat.div_eq_of_lt hx]; omega
theorem modU {W x y : Nat} (hx : x < W) : (y * W + x) % W = x := by
  rw [Nat.mul_comm, Nat.mul_add_mod, Nat.mod_eq_of_lt hx]
section
variable {P Q : Pc} {a b : Cell} {o : Option Cell}
/-- Two pictures whose parts belong to one another. -/
structure Iso (P Q : Pc) (r : Cell → Cell → Prop) : Prop where
  hasL : ∀ {x y}, r x y → P.has x
  hasR : ∀ {x y}, r x y → Q.has y
  col : ∀ {x y}, r x y → P.col x = Q.col y
  left : ∀ {x}, P.has x → ∃ y, r x y
  right : ∀ {y}, Q.has y → ∃ x, r x y
  same : ∀ {x y x' y'}, r x y → r x' y' → (P.Same x x' ↔ Q.Same y y')
  cl : ∀ {x y x'}, r x y → P.Same x x' → r x' y
  cr : ∀ {x y y'}, r x y → Q.Same y y' → r x y'
  adj : ∀ {x y x' y'}, r x y → r x' y' → (P.Adj x x' ↔ Q.Adj y y')
theorem nd_iso {r : Cell → Cell → Prop} (I : Iso P Q r) : ∀ (n m : Nat) (o o' : Option Cell) (a b : Cell) (c c' : Txt) (d d' : Nat), P.Nd n o a c d → Q.Nd m o' b c' d' → r a b → (∀ x y, r x y → (P.SameO o x ↔ Q.SameO o' y)) → c = c' ∧ d = d' := by
  intro n
  induction n with
  | zero => intro m o o' a b c c' d d' h; exact absurd h (fun h => h)
  | succ n ih =>
    intro m o o' a b c c' d d' h h' ha ho
    cases m with
    | zero => exact absurd h' (fun h => h)
    | succ m =>
      obtain ⟨L, K, hL, rfl, rfl⟩ := h
      obtain ⟨M, K', hM, rfl, rfl⟩ := h'
      have f1 : ∀ x ∈ L, ∃ y ∈ M, r x.1 y.1 := fun x hx => by
        obtain ⟨h1, hn, hh⟩ := K.adj x hx
        obtain ⟨q, hq⟩ := I.left hh
        obtain ⟨hc, s, t, hs, ht, hst⟩ := (I.adj ha hq).1 h1
        obtain ⟨y, hy, hyt⟩ := K'.all s t hs hst ht.hasR (by rw [ht.col]; exact fun e => hc e.symm) (fun e => hn ((ho x.1 q hq).2 (SameO_same e ht.symm)))
        exact ⟨y, hy, I.cr hq (ht.trans hyt.symm)⟩
      have f2 : ∀ y ∈ M, ∃ x ∈ L, r x.1 y.1 := fun y hy => by
        obtain ⟨h1, hn, hh⟩ := K'.adj y hy
        obtain ⟨q, hq⟩ := I.right hh
        obtain ⟨hc, s, t, hs, ht, hst⟩ := (I.adj ha hq).2 h1
        obtain ⟨x, hx, hxt⟩ := K.all s t hs hst ht.hasR (by rw [ht.col]; exact fun e => hc e.symm) (fun e => hn ((ho q y.1 hq).1 (SameO_same e ht.symm)))
        exact ⟨x, hx, I.cl hq (ht.trans hxt.symm)⟩
      have f3 : ∀ x ∈ L, ∀ y ∈ M, r x.1 y.1 → (x.2.1, x.2.2) = (y.2.1, y.2.2) := fun x hx y hy hs => by
        obtain ⟨e1, e2⟩ := ih m (some a) (some b) x.1 y.1 _ _ _ _ (hL x hx) (hM y hy) hs (fun z w hzw => I.same ha hzw)
        rw [e1, e2]
      have p := match_rel (fun x y : Kid => r x.1 y.1) (fun e : Kid => (e.2.1, e.2.2)) (fun e : Kid => (e.2.1, e.2.2)) (L := L) (M := M)
        (K.diff.imp fun hn y _ k => hn ((I.same k.1 k.2).2 (.start (I.hasR k.1))))
        (K'.diff.imp fun hn x _ k => hn ((I.same k.1 k.2).1 (.start (I.hasL k.1)))) f1 f2 f3
      constructor
      · refine wrapC_perm ?_
        have := p.map Prod.fst
        simpa [List.map_map, Function.comp_def] using this
      · refine deepC_perm ?_
        have := p.map Prod.snd
        simpa [List.map_map, Function.comp_def] using this
theorem dec_iff (p : Prop) : (@decide p (Classical.propDecidable p) = true) ↔ p := @decide_eq_true_iff p (Classical.propDecidable p)
/-- The cells of a picture. -/
def Pc.cells (P : Pc) : List Cell := (List.range (P.W * P.H)).map fun i => (((i % P.W : Nat) : Int), ((i / P.W : Nat) : Int))
theorem mem_cells {q : Cell} (hq : P.has q) : q ∈ P.cells := by
  obtain ⟨⟨q1, q2⟩, q3, q4⟩ := hq
  obtain ⟨x, hx⟩ := Int.eq_ofNat_of_zero_le q1
  obtain ⟨y, hy⟩ := Int.eq_ofNat_of_zero_le q3
  have hxW : x < P.W := by omega
  have hyH : y < P.H := by omega
  refine List.mem_map.2 ⟨y * P.W + x, ?_, ?_⟩
  · rw [List.mem_range]
    have : (y + 1) * P.W ≤ P.H * P.W := Nat.mul_le_mul_right _ hyH
    rw [Nat.add_mul, Nat.mul_comm P.H] at this
    omega
  · rw [divU hxW, modU hxW]
    exact (Prod.ext hx hy).symm
/-- Each set of pixels has one of each of its parts. -/
theorem trv_ex (S : Cell → Prop) (hS : ∀ x, S x → P.has x) : ∃ T, Trv P.Same S T := by
  obtain ⟨T, h, _⟩ := labL_trv (fun x y => @decide (P.Same x y) (Classical.propDecidable _)) (P.cells.filter fun x => @decide (S x) (Classical.propDecidable _)) (fun x hx => (dec_iff _).2 (.start (hS x ((dec_iff _).1 (List.mem_filter.1 hx).2))))
  refine ⟨T, fun t ht => (dec_iff _).1 (List.mem_filter.1 (h.mem t ht)).2, h.diff.imp fun hn k => hn ((dec_iff _).2 k), fun x hx => ?_⟩
  obtain ⟨t, ht, e⟩ := h.all x (List.mem_filter.2 ⟨mem_cells (hS x hx), (dec_iff _).2 hx⟩)
  exact ⟨t, ht, (dec_iff _).1 e⟩
open Classical in
theorem nd_ex : ∀ (k : Nat) (o : Option Cell) (a : Cell), P.cnt (fun x => decide (P.Sd o a x)) ≤ k → P.has a → ¬ P.SameO o a → (∀ p, o = some p → P.Adj p a) → ∃ c d, P.Nd k o a c d := by
  intro k
  induction k with
  | zero =>
    intro o a hk ha ho _
    have := cnt_lt (P := P) (s := fun _ => false) (s' := fun x => decide (P.Sd o a x)) (fun x h => by simp at h) ha rfl (decide_eq_true (.start ha ho))
    omega
  | succ k ih =>
    intro o a hk ha ho hadj
    obtain ⟨T, hT⟩ := trv_ex (P := P) (fun q => ∃ s, P.Same a s ∧ A4 s q ∧ P.has q ∧ P.col q ≠ P.col a ∧ ¬ P.SameO o q) (fun x ⟨_, _, _, h, _⟩ => h)
    have hx : ∀ q ∈ T, ∃ c d, P.Nd k (some a) q c d := fun q hq => by
      obtain ⟨s, h1, h2, h3, h4, h5⟩ := hT.mem q hq
      have hA := adj_of h1 h3 h2 h4
      refine ih (some a) q ?_ h3 hA.not (fun p hp => by cases hp; exact hA)
      have := cnt_lt (P := P) (s := fun x => decide (P.Sd (some a) q x)) (s' := fun x => decide (P.Sd o a x)) (fun x hx => decide_eq_true (sd_sub hA ha ho h5 hadj (of_decide_eq_true hx))) ha (decide_eq_false (fun h => h.no (.start ha))) (decide_eq_true (.start ha ho))
      omega
    let f : Cell → Kid := fun q => if h : ∃ z : Txt × Nat, P.Nd k (some a) q z.1 z.2 then (q, Classical.choose h) else (q, [], 0)
    have f1 : ∀ q, (f q).1 = q := fun q => by simp only [f]; split <;> rfl
    have f2 : ∀ q ∈ T, P.Nd k (some a) (f q).1 (f q).2.1 (f q).2.2 := fun q hq => by
      obtain ⟨c, d, hcd⟩ := hx q hq
      have h : ∃ z : Txt × Nat, P.Nd k (some a) q z.1 z.2 := ⟨(c, d), hcd⟩
      have := Classical.choose_spec h
      simp only [f, dif_pos h]
      exact this
    refine ⟨_, _, T.map f, ⟨fun e he => ?_, ?_, fun s q h1 h2 h3 h4 h5 => ?_⟩, fun e he => ?_, rfl, rfl⟩
    · obtain ⟨q, hq, rfl⟩ := List.mem_map.1 he
      obtain ⟨s, h1, h2, h3, h4, h5⟩ := hT.mem q hq
      rw [f1]
      exact ⟨adj_of h1 h3 h2 h4, h5, h3⟩
    · rw [List.pairwise_map]
      exact hT.diff.imp fun h => by rw [f1, f1]; exact h
    · obtain ⟨t, ht, e⟩ := hT.all q ⟨s, h1, h2, h3, h4, h5⟩
      exact ⟨f t, List.mem_map.2 ⟨t, ht, rfl⟩, by rw [f1]; exact e⟩
    · obtain ⟨q, hq, rfl⟩ := List.mem_map.1 he
      exact f2 q hq
/-- A map of pixels that keeps colours and neighbours. -/
theorem iso_map (f g : Cell → Cell) (hf : ∀ x, P.has x → Q.has (f x)) (hg : ∀ y, Q.has y → P.has (g y)) (fg : ∀ y, f (g y) = y) (gf : ∀ x, g (f x) = x) (hc : ∀ x, P.has x → Q.col (f x) = P.col x)
    (h4 : ∀ x y, A4 x y ↔ A4 (f x) (f y)) (h8 : ∀ x y, A8 x y ↔ A8 (f x) (f y)) : Iso P Q (fun x y => Q.Same (f x) y) := by
  have F : ∀ x y, P.Same x y → Q.Same (f x) (f y) := fun x y h => by
    induction h with
    | start h => exact .start (hf _ h)
    | step p q hp hn ih =>
      refine .step _ _ ih ⟨hf _ hn.1, by rw [hc _ hn.1, hc _ hp.hasR, hn.2.1], ?_⟩
      rw [hc _ hp.hasR]
      exact hn.2.2.imp (fun h => (h4 _ _).1 h) (fun h => ⟨h.1, (h8 _ _).1 h.2⟩)
  have G : ∀ x y, Q.Same x y → P.Same (g x) (g y) := fun x y h => by
    have hcg : ∀ y, Q.has y → P.col (g y) = Q.col y := fun y hy => by have := hc _ (hg y hy); rw [fg] at this; exact this.symm
    induction h with
    | start h => exact .start (hg _ h)
    | step p q hp hn ih =>
      refine .step _ _ ih ⟨hg _ hn.1, by rw [hcg _ hn.1, hcg _ hp.hasR, hn.2.1], ?_⟩
      rw [hcg _ hp.hasR]
      exact hn.2.2.imp (fun h => (h4 _ _).2 (by rw [fg, fg]; exact h)) (fun h => ⟨h.1, (h8 _ _).2 (by rw [fg, fg]; exact h.2)⟩)
  have FS : ∀ x y, Q.Same (f x) (f y) ↔ P.Same x y := fun x y => ⟨fun h => by have := G _ _ h; rw [gf, gf] at this; exact this, F x y⟩
  have HL : ∀ {x y}, Q.Same (f x) y → P.has x := fun {x y} h => by have := hg _ h.hasL; rw [gf] at this; exact this
  refine ⟨HL, fun h => h.hasR, fun h => by rw [← hc _ (HL h), h.col], fun h => ⟨_, .start (hf _ h)⟩, fun {y} h => ⟨g y, by rw [fg]; exact .start h⟩, ?_, ?_, fun h k => h.trans k, ?_⟩
  · intro x y x' y' h h'
    rw [← FS]
    exact ⟨fun k => h.symm.trans (k.trans h'), fun k => h.trans (k.trans h'.symm)⟩
  · intro x y x' h k
    exact (F _ _ k).symm.trans h
  · intro x y x' y' h h'
    have e1 : P.col x = Q.col y := by rw [← hc _ (HL h), h.col]
    have e2 : P.col x' = Q.col y' := by rw [← hc _ (HL h'), h'.col]
    constructor
    · rintro ⟨n, s, t, hs, ht, hst⟩
      exact ⟨by rw [← e1, ← e2]; exact n, f s, f t, h.symm.trans (F _ _ hs), h'.symm.trans (F _ _ ht), (h4 _ _).1 hst⟩
    · rintro ⟨n, s, t, hs, ht, hst⟩
      refine ⟨by rw [e1, e2]; exact n, g s, g t, ?_, ?_, (h4 _ _).2 (by rw [fg, fg]; exact hst)⟩
      · have := G _ _ (h.trans hs); rw [gf] at this; exact this
      · have := G _ _ (h'.trans ht); rw [gf] at this; exact this
/-- A way over good places that need not go over one of them. -/
theorem reroute {nb : Int × Int → List (Int × Int)} {ok1 ok2 : Int × Int → Bool} {x : Int × Int} (hs : ∀ p q, q ∈ nb p → p ∈ nb q) (h2 : ∀ z, ok2 z = true ↔ ok1 z = true ∨ z = x) (hx : ok1 x = false)
    (hn : ∀ n n', n ∈ nb x → n' ∈ nb x → ok1 n = true → ok1 n' = true → Rch nb ok1 n n') {a b : Int × Int} (ha : ok1 a = true) (hb : ok1 b = true) (h : Rch nb ok2 a b) : Rch nb ok1 a b := by
  have tr : ∀ u v w, Rch nb ok1 u v → Rch nb ok1 v w → Rch nb ok1 u w := fun u v w h k => by
    induction k with
    | start _ => exact h
    | step p q _ h1 h2 ih => exact .step p q ih h1 h2
  have nx : ∀ z, ok1 z = true → z ≠ x := fun z hz e => by rw [e, hx] at hz; cases hz
  have key : (b ≠ x → Rch nb ok1 a b) ∧ (b = x → ∃ n, n ∈ nb x ∧ ok1 n = true ∧ Rch nb ok1 a n) := by
    clear hb
    induction h with
    | start _ => exact ⟨fun _ => .start ha, fun e => absurd e (nx a ha)⟩
    | step p q hp hq hok ih =>
      by_cases ep : p = x
      · obtain ⟨n, n1, n2, n3⟩ := ih.2 ep
        refine ⟨fun e => ?_, fun _ => ⟨n, n1, n2, n3⟩⟩
        have hq1 : ok1 q = true := ((h2 q).1 hok).resolve_right e
        exact tr _ _ _ n3 (hn n q n1 (by rw [← ep]; exact hq) n2 hq1)
      · have h1 := ih.1 ep
        have hp1 : ok1 p = true := by
          cases h1 with
          | start h => exact h
          | step _ _ _ _ h => exact h
        refine ⟨fun e => .step p q h1 hq (((h2 q).1 hok).resolve_right e), fun e => ⟨p, ?_, hp1, h1⟩⟩
        rw [← e]; exact hs p q hq
  exact key.1 (nx b hb)
theorem Rch.more {nb : Int × Int → List (Int × Int)} {ok1 ok2 : Int × Int → Bool} (h : ∀ z, ok1 z = true → ok2 z = true) {a b : Int × Int} (k : Rch nb ok1 a b) : Rch nb ok2 a b := by
  induction k with
  | start h1 => exact .start (h _ h1)
  | step p q _ h1 h2 ih => exact .step p q ih h1 (h _ h2)
theorem Rch.tr {nb : Int × Int → List (Int × Int)} {ok : Int × Int → Bool} {a b c : Int × Int} (h : Rch nb ok a b) (k : Rch nb ok b c) : Rch nb ok a c := by
  induction k with
  | start _ => exact h
  | step p q _ h1 h2 ih => exact .step p q ih h1 h2
theorem Rch.endOk {nb : Int × Int → List (Int × Int)} {ok : Int × Int → Bool} {a b : Int × Int} (h : Rch nb ok a b) : ok b = true := by
  cases h with
  | start h => exact h
  | step _ _ _ _ h => exact h
theorem Rch.startOk {nb : Int × Int → List (Int × Int)} {ok : Int × Int → Bool} {a b : Int × Int} (h : Rch nb ok a b) : ok a = true := by
  induction h with
  | start h => exact h
  | step _ _ _ _ _ ih => exact ih
theorem Rch.sym {nb : Int × Int → List (Int × Int)} {ok : Int × Int → Bool} (hs : ∀ p q, q ∈ nb p → p ∈ nb q) {a b : Int × Int} (h : Rch nb ok a b) : Rch nb ok b a := by
  induction h with
  | start h => exact .start h
  | step p q hp h1 h2 ih => exact (Rch.step q p (.start h2) (hs p q h1) hp.endOk).tr ih
/-- A place that can go: there are as many classes without it. -/
theorem trv_drop {nb : Int × Int → List (Int × Int)} {ok1 ok2 : Int × Int → Bool} {x : Int × Int} (hs : ∀ p q, q ∈ nb p → p ∈ nb q) (h2 : ∀ z, ok2 z = true ↔ ok1 z = true ∨ z = x) (hx : ok1 x = false)
    (hn : ∀ n n', n ∈ nb x → n' ∈ nb x → ok1 n = true → ok1 n' = true → Rch nb ok1 n n') (hone : ∃ n, n ∈ nb x ∧ ok1 n = true) {T1 T2 : List Cell}
    (t1 : Trv (Rch nb ok1) (fun z => ok1 z = true) T1) (t2 : Trv (Rch nb ok2) (fun z => ok2 z = true) T2) : T1.length = T2.length := by
  refine trv_len (fun y z => Rch nb ok2 y z) t1 t2 (fun y hy => ⟨y, (h2 y).2 (.inl hy), .start ((h2 y).2 (.inl hy))⟩) (fun y hy => ?_) (fun y y' z hy hy' _ h h' => reroute hs h2 hx hn hy hy' (h.tr (h'.sym hs))) (fun y z z' _ _ _ h h' => (h.sym hs).tr h') (fun y z z' _ _ _ h h' => h.tr (h'.sym hs)) (fun y y' z _ _ _ h h' => (h'.more fun z hz => (h2 z).2 (.inl hz)).tr h)
  rcases (h2 y).1 hy with h | rfl
  · exact ⟨y, h, .start hy⟩
  · obtain ⟨n, n1, n2⟩ := hone
    exact ⟨n, n2, .step n y (.start ((h2 n).2 (.inl n2))) (hs _ _ n1) hy⟩
end
end Go.Proofs.YtdhajndmebnknaaGreat

namespace Go.Proofs.YtdhajndmebnknaaGreat
open Go.RowKit

/-- A picture with white pixels around it. -/
def padL (L : List Bool) (W H : Nat) : List Bool := (List.range ((W + 2) * (H + 2))).map fun i => bit L W H (((i % (W + 2) : Nat) : Int) - 1) (((i / (W + 2) : Nat) : Int) - 1)
theorem divT {W x y : Nat} (hx : x < W) : (y * W + x) / W = y := by
  rw [Nat.mul_comm, Nat.mul_add_div (by omega), Nat.div_eq_of_lt hx]; omega
theorem modT {W x y : Nat} (hx : x < W) : (y * W + x) % W = x := by
  rw [Nat.mul_comm, Nat.mul_add_mod, Nat.mod_eq_of_lt hx]
/-- The parts of a framed picture. -/
def pcF (L : List Bool) (W H : Nat) : Pc := pcI (padL L W H) (W + 2) (H + 2)
theorem pcF_has (L : List Bool) (W H : Nat) : (pcF L W H).has (0, 0) := by
  refine ⟨⟨by simp, ?_⟩, by simp, ?_⟩
  · show (0 : Int) < ((W + 2 : Nat) : Int); omega
  · show (0 : Int) < ((H + 2 : Nat) : Int); omega
theorem pcF_col (L : List Bool) (W H : Nat) : (pcF L W H).col (0, 0) = false := by
  have e : bit (padL L W H) (W + 2) (H + 2) 0 0 = (padL L W H).getD 0 false := by
    simp [bit]
    omega
  show bit (padL L W H) (W + 2) (H + 2) 0 0 = false
  rw [e]
  have hpos : 0 < (W + 2) * (H + 2) := Nat.mul_pos (by omega) (by omega)
  rw [padL, List.getD_eq_getElem?_getD, List.getElem?_map, List.getElem?_range hpos]
  simp [bit]
open Classical in
/-- The code of the tree of a picture, and its depth. -/
noncomputable def treeV (L : List Bool) (W H : Nat) : Txt × Nat := if h : ∃ z : Txt × Nat, ∃ n, (pcF L W H).Nd n none (0, 0) z.1 z.2 then Classical.choose h else ([], 0)
theorem treeV_is {L : List Bool} {W H n : Nat} {c : Txt} {d : Nat} (h : (pcF L W H).Nd n none (0, 0) c d) : treeV L W H = (c, d) := by
  have hx : ∃ z : Txt × Nat, ∃ n, (pcF L W H).Nd n none (0, 0) z.1 z.2 := ⟨(c, d), n, h⟩
  rw [treeV, dif_pos hx]
  obtain ⟨m, hm⟩ := Classical.choose_spec hx
  obtain ⟨e1, e2⟩ := nd_same m n none none (0, 0) (0, 0) _ _ _ _ hm h (.start (pcF_has L W H)) (fun _ => Iff.rfl)
  exact Prod.ext e1 e2
theorem vp_root {L : List Bool} {W H : Nat} {s : Cell → Bool} (hs : ∀ z, s z = true ↔ (pcF L W H).Same (0, 0) z) : (pcF L W H).Vp none (0, 0) (fun z => s z = true) :=
  ⟨fun x hx => (hs x).2 hx, fun x hx => hx.elim, fun x hx _ => (hs x).1 hx, fun x y hx hxy => (hs y).2 (((hs x).1 hx).trans hxy), pcF_has L W H, fun h => h, fun p hp => by cases hp⟩
end Go.Proofs.YtdhajndmebnknaaGreat

namespace Go.Proofs.YtdhajndmebnknaaGreat
open Go.RowKit

theorem bit_out {L : List Bool} {W H : Nat} {x y : Int} (h : ¬ ((0 ≤ x ∧ x < W) ∧ 0 ≤ y ∧ y < H)) : bit L W H x y = false := by
  cases e : bit L W H x y with
  | false => rfl
  | true =>
    exfalso; apply h
    unfold bit at e
    simp only [Bool.and_eq_true, decide_eq_true_eq] at e
    omega
theorem bit_pad (L : List Bool) (W H : Nat) (z : Cell) : (pcF L W H).col z = bit L W H (z.1 - 1) (z.2 - 1) := by
  by_cases hz : (pcF L W H).has z
  · obtain ⟨⟨h1, h2⟩, h3, h4⟩ := hz
    obtain ⟨x, hx⟩ := Int.eq_ofNat_of_zero_le h1
    obtain ⟨y, hy⟩ := Int.eq_ofNat_of_zero_le h3
    have g1 : z.1 < ((W + 2 : Nat) : Int) := h2
    have g2 : z.2 < ((H + 2 : Nat) : Int) := h4
    have hxW : x < W + 2 := by omega
    have hyH : y < H + 2 := by omega
    show bit (padL L W H) (W + 2) (H + 2) z.1 z.2 = _
    rw [hx, hy]
    show bit (padL L W H) (W + 2) (H + 2) (x : Int) (y : Int) = _
    rw [bit_in hxW hyH, padL, List.getD_eq_getElem?_getD, List.getElem?_map, List.getElem?_range (by
      have : (y + 1) * (W + 2) ≤ (H + 2) * (W + 2) := Nat.mul_le_mul_right _ hyH
      rw [Nat.add_mul, Nat.mul_comm (H + 2)] at this
      omega)]
    rw [Option.map_some, Option.getD_some, divT hxW, modT hxW]
  · rw [bit_out]
    · show bit (padL L W H) (W + 2) (H + 2) z.1 z.2 = false
      exact bit_out (fun h => hz ⟨h.1, h.2⟩)
    · intro h
      apply hz
      refine ⟨⟨by omega, ?_⟩, by omega, ?_⟩
      · show z.1 < ((W + 2 : Nat) : Int); omega
      · show z.2 < ((H + 2 : Nat) : Int); omega
section
variable {L : List Bool} {W H : Nat}
theorem pcF_mem {x y : Int} (h : (0 ≤ x ∧ x ≤ W + 1) ∧ 0 ≤ y ∧ y ≤ H + 1) : (pcF L W H).has (x, y) := by
  refine ⟨⟨h.1.1, ?_⟩, h.2.1, ?_⟩
  · show x < ((W + 2 : Nat) : Int); omega
  · show y < ((H + 2 : Nat) : Int); omega
theorem pcF_lim {z : Cell} (h : (pcF L W H).has z) : (0 ≤ z.1 ∧ z.1 ≤ W + 1) ∧ 0 ≤ z.2 ∧ z.2 ≤ H + 1 := by
  obtain ⟨⟨h1, h2⟩, h3, h4⟩ := h
  have g1 : z.1 < ((W + 2 : Nat) : Int) := h2
  have g2 : z.2 < ((H + 2 : Nat) : Int) := h4
  omega
theorem frame_white {z : Cell} (hf : z.1 = 0 ∨ z.2 = 0 ∨ z.1 = W + 1 ∨ z.2 = H + 1) : (pcF L W H).col z = false := by
  rw [bit_pad]
  exact bit_out (by omega)
theorem frame_top : ∀ n : Nat, n ≤ W + 1 → (pcF L W H).Same (0, 0) ((n : Int), 0)
  | 0, _ => .start (pcF_has L W H)
  | n + 1, h => (frame_top n (by omega)).trans (same4 (pcF_mem (by omega)) (pcF_mem (by omega)) (.inr ⟨rfl, .inr (by simp only; omega)⟩) (by rw [frame_white (.inr (.inl rfl)), frame_white (.inr (.inl rfl))]))
theorem frame_col {c : Int} (hc : c = 0 ∨ c = (W : Int) + 1) : ∀ n : Nat, n ≤ H + 1 → (pcF L W H).Same (c, 0) (c, (n : Int))
  | 0, _ => .start (pcF_mem (by omega))
  | n + 1, h => (frame_col hc n (by omega)).trans (same4 (pcF_mem (by omega)) (pcF_mem (by omega)) (.inl ⟨rfl, .inr (by simp only; omega)⟩) (by rw [frame_white (by simp only; omega), frame_white (by simp only; omega)]))
theorem frame_low : ∀ n : Nat, n ≤ W + 1 → (pcF L W H).Same (0, (H : Int) + 1) ((n : Int), (H : Int) + 1)
  | 0, _ => .start (pcF_mem (by omega))
  | n + 1, h => (frame_low n (by omega)).trans (same4 (pcF_mem (by omega)) (pcF_mem (by omega)) (.inr ⟨rfl, .inr (by simp only; omega)⟩) (by rw [frame_white (.inr (.inr (.inr rfl))), frame_white (.inr (.inr (.inr rfl)))]))
/-- The frame is one part with the corner. -/
theorem frame_same {z : Cell} (hz : (pcF L W H).has z) (hf : z.1 = 0 ∨ z.2 = 0 ∨ z.1 = W + 1 ∨ z.2 = H + 1) : (pcF L W H).Same (0, 0) z := by
  obtain ⟨zx, zy⟩ := z
  have hl := pcF_lim hz
  simp only at hl hf
  obtain ⟨x, rfl⟩ := Int.eq_ofNat_of_zero_le hl.1.1
  obtain ⟨y, rfl⟩ := Int.eq_ofNat_of_zero_le hl.2.1
  have e1 : ((W + 1 : Nat) : Int) = (W : Int) + 1 := by omega
  have e2 : ((H + 1 : Nat) : Int) = (H : Int) + 1 := by omega
  rcases hf with h | h | h | h
  · rw [show (((x : Int), (y : Int)) : Cell) = (0, (y : Int)) from Prod.ext h rfl]
    exact frame_col (.inl rfl) y (by omega)
  · rw [show (((x : Int), (y : Int)) : Cell) = ((x : Int), 0) from Prod.ext rfl h]
    exact frame_top x (by omega)
  · have a := frame_top (L := L) (W := W) (H := H) (W + 1) (by omega)
    have b := frame_col (L := L) (W := W) (H := H) (.inr rfl) y (by omega)
    rw [e1] at a
    rw [show (((x : Int), (y : Int)) : Cell) = ((W : Int) + 1, (y : Int)) from Prod.ext h rfl]
    exact a.trans b
  · have a := frame_col (L := L) (W := W) (H := H) (.inl rfl) (H + 1) (by omega)
    have b := frame_low (L := L) (W := W) (H := H) x (by omega)
    rw [e2] at a
    rw [show (((x : Int), (y : Int)) : Cell) = ((x : Int), (H : Int) + 1) from Prod.ext rfl h]
    exact a.trans b
theorem sd_row : ∀ n : Nat, n ≤ W + 1 → (pcF L W H).Sd none (0, 0) ((n : Int), 0)
  | n, h => .same _ _ (.start (pcF_has L W H) (fun h => h)) (frame_top n h)
/-- All pixels are reached from the corner. -/
theorem sd_all {z : Cell} : (pcF L W H).Sd none (0, 0) z ↔ (pcF L W H).has z := by
  refine ⟨fun h => h.has', fun hz => ?_⟩
  obtain ⟨zx, zy⟩ := z
  have hl := pcF_lim hz
  simp only at hl
  obtain ⟨x, rfl⟩ := Int.eq_ofNat_of_zero_le hl.1.1
  obtain ⟨y, rfl⟩ := Int.eq_ofNat_of_zero_le hl.2.1
  have key : ∀ n : Nat, n ≤ H + 1 → (pcF L W H).Sd none (0, 0) ((x : Int), (n : Int)) := by
    intro n
    induction n with
    | zero => intro _; exact sd_row x (by omega)
    | succ n ih => intro h; exact .adj _ _ (ih (by omega)) (pcF_mem (by omega)) (.inl ⟨rfl, .inr (by simp only; omega)⟩) (fun h => h)
  exact key y (by omega)
open Classical in
/-- Each framed picture has a tree. -/
theorem tree_nd (L : List Bool) (W H : Nat) : ∃ n, (pcF L W H).Nd n none (0, 0) (treeV L W H).1 (treeV L W H).2 := by
  obtain ⟨c, d, h⟩ := nd_ex (P := pcF L W H) _ none (0, 0) (Nat.le_refl _) (pcF_has L W H) (fun h => h) (fun p hp => by cases hp)
  exact ⟨_, by rw [treeV_is h]; exact h⟩
theorem tree_brk (L : List Bool) (W H : Nat) : brk 0 0 (treeV L W H).1 = some (0, ((treeV L W H).2 : Int) + 1) := by
  obtain ⟨n, h⟩ := tree_nd L W H
  have := nd_brk n _ _ _ _ h 0 0 [] (Int.le_refl _) (Int.le_refl _)
  rw [List.append_nil] at this
  rw [this, brk]
  congr 2
  omega
/-- The tree of a picture with the same parts. -/
theorem tree_iso {L' : List Bool} {W' H' : Nat} {r : Cell → Cell → Prop} (I : Iso (pcF L W H) (pcF L' W' H') r) (h0 : r (0, 0) (0, 0)) : treeV L W H = treeV L' W' H' := by
  obtain ⟨n, h⟩ := tree_nd L W H
  obtain ⟨m, k⟩ := tree_nd L' W' H'
  obtain ⟨e1, e2⟩ := nd_iso I n m none none (0, 0) (0, 0) _ _ _ _ h k h0 (fun _ _ _ => Iff.rfl)
  exact Prod.ext e1 e2
theorem tree_map {L' : List Bool} {W' H' : Nat} (f g : Cell → Cell) (hf : ∀ x, (pcF L W H).has x → (pcF L' W' H').has (f x)) (hg : ∀ y, (pcF L' W' H').has y → (pcF L W H).has (g y)) (fg : ∀ y, f (g y) = y) (gf : ∀ x, g (f x) = x)
    (hc : ∀ x, (pcF L W H).has x → (pcF L' W' H').col (f x) = (pcF L W H).col x) (h4 : ∀ x y, A4 x y ↔ A4 (f x) (f y)) (h8 : ∀ x y, A8 x y ↔ A8 (f x) (f y)) (h0 : (f (0, 0)).1 = 0 ∨ (f (0, 0)).2 = 0 ∨ (f (0, 0)).1 = W' + 1 ∨ (f (0, 0)).2 = H' + 1) :
    treeV L W H = treeV L' W' H' := by
  refine tree_iso (iso_map f g hf hg fg gf hc h4 h8) ?_
  exact (frame_same (hf _ (pcF_has L W H)) h0).symm
/-- The picture that a quarter of a turn or a mirror makes. -/
theorem tree_turn0 {L' : List Bool} (h : ∀ x y : Int, (0 ≤ x ∧ x < W) → (0 ≤ y ∧ y < H) → bit L' W H x y = bit L W H (W - 1 - x) y) : treeV L W H = treeV L' W H := by
  refine tree_map (fun z => (W + 1 - z.1, z.2)) (fun z => (W + 1 - z.1, z.2)) (fun x hx => pcF_mem (by have := pcF_lim hx; omega)) (fun x hx => pcF_mem (by have := pcF_lim hx; omega)) (fun y => Prod.ext (by simp only; omega) rfl) (fun y => Prod.ext (by simp only; omega) rfl) (fun z hz => ?_)
    (fun x y => by unfold A4; simp only; omega) (fun x y => by unfold A8 A4; simp only; omega) (by simp only; omega)
  have hl := pcF_lim hz
  rw [bit_pad, bit_pad]
  simp only
  by_cases hin : (0 ≤ (W : Int) + 1 - z.1 - 1 ∧ (W : Int) + 1 - z.1 - 1 < W) ∧ 0 ≤ z.2 - 1 ∧ z.2 - 1 < H
  · rw [h _ _ hin.1 hin.2]
    congr 1
    omega
  · rw [bit_out hin, bit_out (by omega)]
theorem tree_turn1 {L' : List Bool} (h : ∀ x y : Int, (0 ≤ x ∧ x < W) → (0 ≤ y ∧ y < H) → bit L' W H x y = bit L W H x (H - 1 - y)) : treeV L W H = treeV L' W H := by
  refine tree_map (fun z => (z.1, H + 1 - z.2)) (fun z => (z.1, H + 1 - z.2)) (fun x hx => pcF_mem (by have := pcF_lim hx; omega)) (fun x hx => pcF_mem (by have := pcF_lim hx; omega)) (fun y => Prod.ext rfl (by simp only; omega)) (fun y => Prod.ext rfl (by simp only; omega)) (fun z hz => ?_)
    (fun x y => by unfold A4; simp only; omega) (fun x y => by unfold A8 A4; simp only; omega) (by simp only; omega)
  have hl := pcF_lim hz
  rw [bit_pad, bit_pad]
  simp only
  by_cases hin : (0 ≤ z.1 - 1 ∧ z.1 - 1 < (W : Int)) ∧ 0 ≤ (H : Int) + 1 - z.2 - 1 ∧ (H : Int) + 1 - z.2 - 1 < H
  · rw [h _ _ hin.1 hin.2]
    congr 1
    omega
  · rw [bit_out hin, bit_out (by omega)]
theorem tree_turn2 {L' : List Bool} (h : ∀ x y : Int, (0 ≤ x ∧ x < H) → (0 ≤ y ∧ y < W) → bit L' H W x y = bit L W H y x) : treeV L W H = treeV L' H W := by
  refine tree_map (fun z => (z.2, z.1)) (fun z => (z.2, z.1)) (fun x hx => pcF_mem (by have := pcF_lim hx; omega)) (fun x hx => pcF_mem (by have := pcF_lim hx; omega)) (fun y => rfl) (fun y => rfl) (fun z hz => ?_)
    (fun x y => by unfold A4; simp only; omega) (fun x y => by unfold A8 A4; simp only; omega) (.inl rfl)
  have hl := pcF_lim hz
  rw [bit_pad, bit_pad]
  simp only
  by_cases hin : (0 ≤ z.2 - 1 ∧ z.2 - 1 < (H : Int)) ∧ 0 ≤ z.1 - 1 ∧ z.1 - 1 < W
  · rw [h _ _ hin.1 hin.2]
  · rw [bit_out hin, bit_out (by omega)]
theorem tree_turn3 {L' : List Bool} (h : ∀ x y : Int, (0 ≤ x ∧ x < H) → (0 ≤ y ∧ y < W) → bit L' H W x y = bit L W H y (H - 1 - x)) : treeV L W H = treeV L' H W := by
  refine tree_map (fun z => (H + 1 - z.2, z.1)) (fun z => (z.2, H + 1 - z.1)) (fun x hx => pcF_mem (by have := pcF_lim hx; omega)) (fun x hx => pcF_mem (by have := pcF_lim hx; omega)) (fun y => Prod.ext (by simp only; omega) rfl) (fun y => Prod.ext rfl (by simp only; omega)) (fun z hz => ?_)
    (fun x y => by unfold A4; simp only; omega) (fun x y => by unfold A8 A4; simp only; omega) (.inr (.inl rfl))
  have hl := pcF_lim hz
  rw [bit_pad, bit_pad]
  simp only
  by_cases hin : (0 ≤ (H : Int) + 1 - z.2 - 1 ∧ (H : Int) + 1 - z.2 - 1 < H) ∧ 0 ≤ z.1 - 1 ∧ z.1 - 1 < W
  · rw [h _ _ hin.1 hin.2]
    congr 1
    omega
  · rw [bit_out hin, bit_out (by omega)]
/-- Black parts of a picture are those of the framed one. -/
theorem rch_shift {nb : Int × Int → List (Int × Int)} {ok ok' : Int × Int → Bool} {u v : Int} (hn : ∀ p q : Int × Int, q ∈ nb p ↔ (q.1 + u, q.2 + v) ∈ nb (p.1 + u, p.2 + v)) (h : ∀ z : Int × Int, ok z = true → ok' (z.1 + u, z.2 + v) = true) {a b : Int × Int} (k : Rch nb ok a b) : Rch nb ok' (a.1 + u, a.2 + v) (b.1 + u, b.2 + v) := by
  induction k with
  | start h1 => exact .start (h _ h1)
  | step p q _ h1 h2 ih => exact .step _ _ ih ((hn p q).1 h1) (h _ h2)
theorem nb8_shift (u v : Int) (p q : Int × Int) : q ∈ nb8 p ↔ (q.1 + u, q.2 + v) ∈ nb8 (p.1 + u, p.2 + v) := by
  rw [mem_nb8, mem_nb8]; unfold A8 A4; simp only; omega
theorem nbF_shift (u v : Int) (p q : Int × Int) : q ∈ nbF p ↔ (q.1 + u, q.2 + v) ∈ nbF (p.1 + u, p.2 + v) := by
  rw [mem_nbF, mem_nbF]; unfold A4; simp only; omega
/-- A code has two brackets for each black part and each white part of the framed picture. -/
theorem tree_len {T1 T2 : List Cell} (h1 : Trv (Rch nb8 (okI L W H)) (fun z => okI L W H z = true) T1) (h2 : Trv (Rch nbF (okC (padL L W H) (W + 2) (H + 2) false)) (fun z => okC (padL L W H) (W + 2) (H + 2) false z = true) T2) : (treeV L W H).1.length = 2 * (T1.length + T2.length) := by
  obtain ⟨n, h⟩ := tree_nd L W H
  obtain ⟨T, hT, hl⟩ := nd_len n _ _ _ _ h (pcF_has L W H) (fun h => h) (fun p hp => by cases hp)
  have col : ∀ z, (pcF L W H).col z = true → (pcF L W H).has z := fun z hz => by
    rw [bit_pad] at hz
    by_cases hin : (0 ≤ z.1 - 1 ∧ z.1 - 1 < (W : Int)) ∧ 0 ≤ z.2 - 1 ∧ z.2 - 1 < H
    · exact pcF_mem (by omega)
    · rw [bit_out hin] at hz; cases hz
  have okT : ∀ z, okC (padL L W H) (W + 2) (H + 2) true z = true ↔ (pcF L W H).col z = true := fun z => by
    rw [okC_iff]; exact ⟨fun h => h.2, fun h => ⟨col z h, h⟩⟩
  -- the black parts of the framed picture
  obtain ⟨B, hB⟩ := trv_ex (P := pcF L W H) (fun z => (pcF L W H).col z = true) col
  have eB : T1.length = B.length := by
    have up : ∀ z, okI L W H z = true → (pcF L W H).col (z.1 + 1, z.2 + 1) = true := fun z hz => by
      rw [bit_pad]; simp only; rw [show z.1 + 1 - 1 = z.1 by omega, show z.2 + 1 - 1 = z.2 by omega]; exact hz
    have dn : ∀ z, (pcF L W H).col z = true → okI L W H (z.1 + -1, z.2 + -1) = true := fun z hz => by rw [bit_pad] at hz; exact hz
    have S : ∀ x y, (pcF L W H).col x = true → ((pcF L W H).Same x y ↔ Rch nb8 (okC (padL L W H) (W + 2) (H + 2) true) x y) := fun x y hx =>
      (rch_same (c := true) (fun p q => by rw [mem_nb8]; simp) ((okT x).2 hx)).symm
    refine trv_len (fun x y => (pcF L W H).Same (x.1 + 1, x.2 + 1) y) h1 hB (fun x hx => ⟨_, up x hx, .start (col _ (up x hx))⟩) (fun y hy => ⟨_, dn y hy, ?_⟩) (fun x x' y hx hx' hy k k' => ?_) (fun x y y' _ _ _ k k' => k.symm.trans k') (fun x y y' _ _ _ k k' => k.trans k'.symm) (fun x x' y hx hx' hy k k' => ?_)
    · have : ((y.1 + -1 + 1, y.2 + -1 + 1) : Cell) = y := Prod.ext (by simp only; omega) (by simp only; omega)
      simp only
      rw [this]; exact .start (col y hy)
    · have := rch_shift (nb := nb8) (u := -1) (v := -1) (ok' := okI L W H) (nb8_shift _ _) (fun z hz => dn z ((okT z).1 hz)) ((S _ _ (up x hx)).1 (k.trans k'.symm))
      simp only at this
      rw [show ((x.1 + 1 + -1, x.2 + 1 + -1) : Cell) = x from Prod.ext (by simp only; omega) (by simp only; omega), show ((x'.1 + 1 + -1, x'.2 + 1 + -1) : Cell) = x' from Prod.ext (by simp only; omega) (by simp only; omega)] at this
      exact this
    · have := rch_shift (nb := nb8) (u := 1) (v := 1) (ok' := okC (padL L W H) (W + 2) (H + 2) true) (nb8_shift _ _) (fun z hz => (okT _).2 (up z hz)) k'
      exact ((S _ _ (up x' hx')).2 this).trans k
  have hW : Trv (pcF L W H).Same (fun z => (pcF L W H).has z ∧ (pcF L W H).col z = false) T2 := by
    have S : ∀ x y, okC (padL L W H) (W + 2) (H + 2) false x = true → (Rch nbF (okC (padL L W H) (W + 2) (H + 2) false) x y ↔ (pcF L W H).Same x y) := fun x y hx => rch_same (c := false) (fun p q => by rw [mem_nbF]; simp) hx
    have O : ∀ z, okC (padL L W H) (W + 2) (H + 2) false z = true ↔ (pcF L W H).has z ∧ (pcF L W H).col z = false := fun z => okC_iff
    refine ⟨fun t ht => (O t).1 (h2.mem t ht), ?_, fun x hx => ?_⟩
    · refine List.Pairwise.imp_of_mem ?_ h2.diff
      exact fun {a b} ha hb hn k => hn ((S a b (h2.mem a ha)).2 k)
    · obtain ⟨t, ht, e⟩ := h2.all x ((O x).2 hx)
      exact ⟨t, ht, (S t x (h2.mem t ht)).1 e⟩
  have hA := (hB.or hW (fun x y hx hy k => by have := k.col; rw [hx, hy.2] at this; cases this)).congr (S' := (pcF L W H).Sd none (0, 0)) (fun x => by
    rw [sd_all]
    constructor
    · intro h
      by_cases e : (pcF L W H).col x = true
      · exact .inl e
      · exact .inr ⟨h, by simpa using e⟩
    · rintro (h | h)
      · exact col x h
      · exact h.1)
  have eT : T.length = (B ++ T2).length := trv_len (fun x y => (pcF L W H).Same x y) hT hA (fun x hx => ⟨x, hx, .start hx.has'⟩) (fun x hx => ⟨x, hx, .start hx.has'⟩) (fun x x' y _ _ _ k k' => k.trans k'.symm) (fun x y y' _ _ _ k k' => k.symm.trans k') (fun x y y' _ _ _ k k' => k.trans k'.symm) (fun x x' y _ _ _ k k' => k'.trans k)
  rw [hl, eT, List.length_append, eB]
end
section
variable {L L' : List Bool} {W H : Nat} {X : Cell}
theorem Adj_same {P : Pc} {a b a' b' : Cell} (h : P.Adj a b) (h1 : P.Same a a') (h2 : P.Same b b') : P.Adj a' b' := by
  obtain ⟨n, s, t, hs, ht, hst⟩ := h
  exact ⟨by rw [h1.col, h2.col]; exact n, s, t, h1.symm.trans hs, h2.symm.trans ht, hst⟩
/-- A black pixel can go where its black neighbours are of one part without it, and its white ones are of one part. -/
structure Goes (P Q : Pc) (X : Cell) : Prop where
  col : ∀ z, Q.col z = (P.col z && decide (z ≠ X))
  has : ∀ z, Q.has z ↔ P.has z
  own : P.col X = true
  near : ∀ z, A8 X z → P.has z
  hasX : P.has X
  b1 : ∃ n, A8 X n ∧ P.col n = true
  w1 : ∃ w, A4 X w ∧ P.col w = false
  same : ∀ z z', z ≠ X → z' ≠ X → (P.Same z z' ↔ Q.Same z z')
  ww : ∀ w w', A4 X w → A4 X w' → P.col w = false → P.col w' = false → P.Same w w'
theorem A4.ne {p q : Cell} (h : A4 p q) : q ≠ p := by rintro rfl; unfold A4 at h; omega
theorem A8.ne {p q : Cell} (h : A8 p q) : q ≠ p := by rintro rfl; unfold A8 A4 at h; omega
variable {P Q : Pc}
theorem Goes.colN (h : Goes P Q X) {z : Cell} (hz : z ≠ X) : Q.col z = P.col z := by rw [h.col, decide_eq_true hz, Bool.and_true]
theorem Goes.colX (h : Goes P Q X) : Q.col X = false := by rw [h.col]; simp
/-- Two neighbours of a corner. -/
theorem corner {X n : Cell} (h : A8 X n) : A4 X n ∨ ∃ w, A4 X w ∧ A4 n w := by
  rcases h with h | ⟨h1, h2⟩
  · exact .inl h
  · exact .inr ⟨(n.1, X.2), .inr ⟨rfl, h1⟩, .inl ⟨rfl, by simp only; omega⟩⟩
theorem Goes.adj1 (h : Goes P Q X) {z z' : Cell} (hz : z ≠ X) (hz' : z' ≠ X) (hc : P.col z = true) (hc' : P.col z' = false) : P.Adj z z' ↔ Q.Adj z z' := by
  obtain ⟨n, n1, n2⟩ := h.b1
  have nS : P.Same X n := same8 h.hasX (h.near n n1) n1 h.own n2
  have wS : ∀ w, A4 X w → P.col w = false → Q.Same w X := fun w hw hwc =>
    same4 ((h.has w).2 (h.near w (.inl hw))) ((h.has X).2 h.hasX) hw.symm (by rw [h.colX, h.colN hw.ne, hwc])
  have hcQ : Q.col z ≠ Q.col z' := by rw [h.colN hz, h.colN hz', hc, hc']; decide
  constructor
  · rintro ⟨_, s, t, hs, ht, hst⟩
    have tw : P.col t = false := by rw [ht.col, hc']
    have tX : t ≠ X := fun e => by rw [e, h.own] at tw; cases tw
    by_cases sX : s = X
    · subst sX
      have hzn : Q.Same z n := (h.same z n hz n1.ne).1 (hs.trans nS)
      have ht' : Q.Same z' t := (h.same z' t hz' tX).1 ht
      have four : ∀ m, A4 s m → P.col m = true → Q.Adj z z' := fun m hm hmc =>
        ⟨hcQ, m, s, (h.same z m hz hm.ne).1 (hs.trans (same4 h.hasX (h.near m (.inl hm)) hm (by rw [hmc, h.own]))), ht'.trans (wS t hst tw), hm.symm⟩
      rcases corner n1 with k | ⟨w, k1, k2⟩
      · exact four n k n2
      · cases hwc : P.col w with
        | true => exact four w k1 hwc
        | false => exact ⟨hcQ, n, w, hzn, (h.same z' w hz' k1.ne).1 (ht.trans (h.ww t w hst k1 tw hwc)), k2⟩
    · exact ⟨hcQ, s, t, (h.same z s hz sX).1 hs, (h.same z' t hz' tX).1 ht, hst⟩
  · rintro ⟨_, s, t, hs, ht, hst⟩
    have hcP : P.col z ≠ P.col z' := by rw [hc, hc']; decide
    have sb : Q.col s = true := by rw [hs.col, h.colN hz, hc]
    have sX : s ≠ X := fun e => by rw [e, h.colX] at sb; cases sb
    by_cases tX : t = X
    · subst tX
      obtain ⟨w, w1, w2⟩ := h.w1
      have hsb : P.col s = true := by rw [← h.colN sX]; exact sb
      exact ⟨hcP, t, w, ((h.same z s hz sX).2 hs).trans (same4 (h.near s (.inl hst.symm)) h.hasX hst (by rw [hsb, h.own])), (h.same z' w hz' w1.ne).2 (ht.trans (wS w w1 w2).symm), w1⟩
    · exact ⟨hcP, s, t, (h.same z s hz sX).2 hs, (h.same z' t hz' tX).2 ht, hst⟩
theorem Goes.adj (h : Goes P Q X) {z z' : Cell} (hz : z ≠ X) (hz' : z' ≠ X) : P.Adj z z' ↔ Q.Adj z z' := by
  cases h1 : P.col z with
  | true =>
    cases h2 : P.col z' with
    | false => exact h.adj1 hz hz' h1 h2
    | true => exact ⟨fun k => absurd (by rw [h1, h2]) k.1, fun k => absurd (by rw [h.colN hz, h.colN hz', h1, h2]) k.1⟩
  | false =>
    cases h2 : P.col z' with
    | false => exact ⟨fun k => absurd (by rw [h1, h2]) k.1, fun k => absurd (by rw [h.colN hz, h.colN hz', h1, h2]) k.1⟩
    | true => exact ⟨fun k => ((h.adj1 hz' hz h2 h1).1 k.symm).symm, fun k => ((h.adj1 hz' hz h2 h1).2 k.symm).symm⟩
theorem Goes.iso (h : Goes P Q X) : Iso P Q (fun a b => ∃ z, z ≠ X ∧ P.Same a z ∧ Q.Same z b) := by
  obtain ⟨n, n1, n2⟩ := h.b1
  obtain ⟨w, w1, w2⟩ := h.w1
  refine ⟨fun ⟨_, _, k, _⟩ => k.hasL, fun ⟨_, _, _, k⟩ => k.hasR, fun ⟨z, hz, k1, k2⟩ => by rw [k2.col, h.colN hz, k1.col], fun {x} hx => ?_, fun {y} hy => ?_, ?_, fun ⟨z, hz, k1, k2⟩ k => ⟨z, hz, k.symm.trans k1, k2⟩, fun ⟨z, hz, k1, k2⟩ k => ⟨z, hz, k1, k2.trans k⟩, ?_⟩
  · by_cases e : x = X
    · subst e
      exact ⟨n, n, n1.ne, same8 hx (h.near n n1) n1 h.own n2, .start ((h.has n).2 (h.near n n1))⟩
    · exact ⟨x, x, e, .start hx, .start ((h.has x).2 hx)⟩
  · by_cases e : y = X
    · subst e
      refine ⟨w, w, w1.ne, .start (h.near w (.inl w1)), same4 ((h.has w).2 (h.near w (.inl w1))) hy w1.symm ?_⟩
      rw [h.colX, h.colN w1.ne, w2]
    · exact ⟨y, y, e, .start ((h.has y).1 hy), .start hy⟩
  · rintro x y x' y' ⟨z, hz, k1, k2⟩ ⟨z', hz', k1', k2'⟩
    constructor
    · intro k
      exact k2.symm.trans (((h.same z z' hz hz').1 (k1.symm.trans (k.trans k1'))).trans k2')
    · intro k
      exact k1.trans (((h.same z z' hz hz').2 (k2.trans (k.trans k2'.symm))).trans k1'.symm)
  · rintro x y x' y' ⟨z, hz, k1, k2⟩ ⟨z', hz', k1', k2'⟩
    exact ⟨fun k => Adj_same ((h.adj hz hz').1 (Adj_same k k1 k1')) k2 k2', fun k => Adj_same ((h.adj hz hz').2 (Adj_same k k2.symm k2'.symm)) k1.symm k1'.symm⟩
end
end Go.Proofs.YtdhajndmebnknaaGreat

namespace Go.Proofs.YtdhajndmebnknaaGreat
open Go.RowKit

/-- How many components there are of black pixels. -/
def compN (c : Bool) (L : List Bool) (W H : Nat) : Nat := (labL (rchB (nbC c) (okI L W H) (W * H)) (spB L W (W * H))).2
/-- A picture with white and black exchanged. -/
def invL (L : List Bool) (W H : Nat) : List Bool := (List.range (W * H)).map fun i => !bit L W H ((i % W : Nat) : Int) ((i / W : Nat) : Int)
/-- How many holes there are. -/
def holeN (c : Bool) (L : List Bool) (W H : Nat) : Int := (compN (!c) (invL (padL L W H) (W + 2) (H + 2)) (W + 2) (H + 2) : Int) - 1
theorem compN_le (c : Bool) (L : List Bool) (W H : Nat) : compN c L W H ≤ W * H := by
  have h := (labL_le (rchB (nbC c) (okI L W H) (W * H)) (spB L W (W * H)) _ (Nat.le_refl _)).1
  rw [List.take_length] at h
  exact Nat.le_trans h (spB_len L W (W * H))
end Go.Proofs.YtdhajndmebnknaaGreat

namespace Go.Proofs.YtdhajndmebnknaaGreat
open Go.RowKit

theorem mem_nbC {c : Bool} {p q : Int × Int} : q ∈ nbC c p ↔ if c then A8 p q else A4 p q := nbC_iff c p q
theorem nbC_sym (c : Bool) (p q : Int × Int) (h : q ∈ nbC c p) : p ∈ nbC c q := by
  rw [mem_nbC] at *
  cases c
  · exact A4.symm h
  · exact A8.symm h
theorem nbC_8 {c : Bool} {p q : Int × Int} (h : q ∈ nbC c p) : A8 p q := by
  rw [mem_nbC] at h
  cases c
  · exact .inl h
  · exact h
theorem nbC_shift (c : Bool) (u v : Int) (p q : Int × Int) : q ∈ nbC c p ↔ (q.1 + u, q.2 + v) ∈ nbC c (p.1 + u, p.2 + v) := by
  cases c
  · exact nbF_shift u v p q
  · exact nb8_shift u v p q
/-- The pixels of a colour around a pixel. -/
def ringB (L : List Bool) (W H : Nat) (b : Bool) (z q : Int × Int) : Bool := decide (q ∈ nb8 z) && (bit L W H q.1 q.2 == b)
/-- Just one part of the pixels of a colour around a pixel has a neighbour of it. -/
def sideP (L : List Bool) (W H : Nat) (b e : Bool) (z : Int × Int) : Prop :=
  (∃ n, n ∈ nbC e z ∧ ringB L W H b z n = true) ∧ ∀ n n', n ∈ nbC e z → n' ∈ nbC e z → ringB L W H b z n = true → ringB L W H b z n' = true → Rch (nbC e) (ringB L W H b z) n n'
def simpleP (L : List Bool) (W H : Nat) (e : Bool) (z : Int × Int) : Prop := sideP L W H true e z ∧ sideP L W H false (!e) z
theorem ringB_iff {L : List Bool} {W H : Nat} {b : Bool} {z q : Int × Int} : ringB L W H b z q = true ↔ A8 z q ∧ bit L W H q.1 q.2 = b := by
  rw [ringB, Bool.and_eq_true, decide_eq_true_iff, mem_nb8, beq_iff_eq]
/-- A picture in which a pixel is white. -/
theorem bit_set {L : List Bool} {W H i j : Nat} (hL : L.length = W * H) (hi : i < W) (hj : j < H) (c : Bool) (x y : Int) : bit (L.set (j * W + i) c) W H x y = if x = i ∧ y = j then c else bit L W H x y := by
  by_cases hin : (0 ≤ x ∧ x < W) ∧ 0 ≤ y ∧ y < H
  · obtain ⟨a, rfl⟩ := Int.eq_ofNat_of_zero_le hin.1.1
    obtain ⟨b, rfl⟩ := Int.eq_ofNat_of_zero_le hin.2.1
    have ha : a < W := by omega
    have hb : b < H := by omega
    rw [bit_in ha hb, bit_in ha hb, List.getD_eq_getElem?_getD, List.getD_eq_getElem?_getD, List.getElem?_set]
    have hlt : j * W + i < L.length := by
      rw [hL]
      have : (j + 1) * W ≤ H * W := Nat.mul_le_mul_right _ hj
      rw [Nat.add_mul, Nat.mul_comm H] at this
      omega
    by_cases e : (a : Int) = i ∧ (b : Int) = j
    · have e1 : a = i := by omega
      have e2 : b = j := by omega
      subst e1 e2
      rw [if_pos rfl, if_pos hlt, if_pos e]; rfl
    · have hne : ¬ j * W + i = b * W + a := fun h => by
        have d1 := divU (y := j) hi
        have d2 := divU (y := b) ha
        have m1 := modU (y := j) hi
        have m2 := modU (y := b) ha
        rw [h] at d1 m1
        apply e
        omega
      rw [if_neg hne, if_neg e]
  · rw [bit_out hin, bit_out hin, if_neg (by omega)]
section
variable {L : List Bool} {W H i j : Nat} {e : Bool}
theorem compN_trv (c : Bool) (L : List Bool) {W H : Nat} (hW0 : 0 < W) (hW : W ≤ 20) (hH : H ≤ 20) : ∃ T, Trv (Rch (nbC c) (okI L W H)) (fun z => okI L W H z = true) T ∧ compN c L W H = T.length := by
  have OB := okB_I L (W := W) (H := H) hW hH
  have I : ∀ x, okI L W H x = true → ∀ y, rchB (nbC c) (okI L W H) (W * H) x y = true ↔ Rch (nbC c) (okI L W H) x y := fun x hx y => rchB_iff OB hx
  have M : ∀ z, z ∈ spB L W (W * H) ↔ okI L W H z = true := fun z => by rw [spB_mem hW0, okI_iff]
  obtain ⟨T, h, hn⟩ := labL_trv (rchB (nbC c) (okI L W H) (W * H)) (spB L W (W * H)) (fun x hx => (I x ((M x).1 hx) x).2 (.start ((M x).1 hx)))
  refine ⟨T, ⟨fun t ht => (M t).1 (h.mem t ht), ?_, fun x hx => ?_⟩, hn⟩
  · refine List.Pairwise.imp_of_mem ?_ h.diff
    exact fun {a b} ha hb hn k => hn ((I a ((M a).1 (h.mem a ha)) b).2 k)
  · obtain ⟨t, ht, e⟩ := h.all x ((M x).2 hx)
    exact ⟨t, ht, (I t ((M t).1 (h.mem t ht)) x).1 e⟩
theorem invL_len (L : List Bool) (W H : Nat) : (invL L W H).length = W * H := by simp [invL]
theorem okI_inv (L : List Bool) (W H : Nat) (z : Int × Int) : okI (invL L W H) W H z = okC L W H false z := by
  by_cases hin : (0 ≤ z.1 ∧ z.1 < W) ∧ 0 ≤ z.2 ∧ z.2 < H
  · obtain ⟨a, ha⟩ := Int.eq_ofNat_of_zero_le hin.1.1
    obtain ⟨b, hb⟩ := Int.eq_ofNat_of_zero_le hin.2.1
    have ha' : a < W := by omega
    have hb' : b < H := by omega
    obtain rfl : z = ((a : Int), (b : Int)) := Prod.ext ha hb
    have hh : hasB W H ((a : Int), (b : Int)).1 ((a : Int), (b : Int)).2 = true := hasB_iff.2 hin
    rw [okI, okC, hh, Bool.true_and, bit_in ha' hb', invL, List.getD_eq_getElem?_getD, List.getElem?_map, List.getElem?_range (by
      have : (b + 1) * W ≤ H * W := Nat.mul_le_mul_right _ hb'
      rw [Nat.add_mul, Nat.mul_comm H] at this
      omega), Option.map_some, Option.getD_some, divU ha', modU ha']
    simp
  · have hh : hasB W H z.1 z.2 = false := by
      cases e : hasB W H z.1 z.2 with
      | false => rfl
      | true => exact absurd (hasB_iff.1 e) hin
    rw [okI, okC, hh, bit_out hin]; rfl
/-- The number of components stays. -/
theorem comp_drop (hL : L.length = W * H) (hi : i < W) (hj : j < H) (hW : W ≤ 20) (hH : H ≤ 20) (hb : bit L W H i j = true) (hs : sideP L W H true e ((i : Int), (j : Int))) : compN e (L.set (j * W + i) false) W H = compN e L W H := by
  obtain ⟨T1, t1, n1⟩ := compN_trv e (L.set (j * W + i) false) (W := W) (H := H) (by omega) hW hH
  obtain ⟨T2, t2, n2⟩ := compN_trv e L (W := W) (H := H) (by omega) hW hH
  have B := fun x y => bit_set hL hi hj false x y
  have O1 : ∀ z, okI (L.set (j * W + i) false) W H z = true ↔ bit L W H z.1 z.2 = true ∧ z ≠ ((i : Int), (j : Int)) := fun z => by
    rw [okI, B]
    by_cases h : z.1 = i ∧ z.2 = j
    · rw [if_pos h]; simp; exact fun _ => Prod.ext h.1 h.2
    · rw [if_neg h]; simp; exact fun _ h2 => h (by rw [h2]; exact ⟨rfl, rfl⟩)
  have R : ∀ q, ringB L W H true ((i : Int), (j : Int)) q = true → okI (L.set (j * W + i) false) W H q = true := fun q hq => by
    obtain ⟨h1, h2⟩ := ringB_iff.1 hq
    exact (O1 q).2 ⟨h2, h1.ne⟩
  have K : ∀ q, q ∈ nbC e ((i : Int), (j : Int)) → okI (L.set (j * W + i) false) W H q = true → ringB L W H true ((i : Int), (j : Int)) q = true := fun q hq ho => ringB_iff.2 ⟨nbC_8 hq, ((O1 q).1 ho).1⟩
  rw [n1, n2]
  refine trv_drop (x := ((i : Int), (j : Int))) (nbC_sym e) (fun z => ?_) ?_ (fun n n' h1 h2 k1 k2 => (hs.2 n n' h1 h2 (K n h1 k1) (K n' h2 k2)).more R) ?_ t1 t2
  · rw [O1]
    constructor
    · intro h
      by_cases e : z = ((i : Int), (j : Int))
      · exact .inr e
      · exact .inl ⟨h, e⟩
    · rintro (h | rfl)
      · exact h.1
      · exact hb
  · cases e : okI (L.set (j * W + i) false) W H ((i : Int), (j : Int)) with
    | false => rfl
    | true => exact absurd rfl ((O1 _).1 e).2
  · obtain ⟨n, h1, h2⟩ := hs.1
    exact ⟨n, h1, R n h2⟩
theorem padL_len' (L : List Bool) (W H : Nat) : (padL L W H).length = (W + 2) * (H + 2) := by simp [padL]
theorem ext_bits {A B : List Bool} {W H : Nat} (ha : A.length = W * H) (hb : B.length = W * H) (h : ∀ x y : Nat, x < W → y < H → A.getD (y * W + x) false = B.getD (y * W + x) false) : A = B := by
  apply List.ext_getElem (by rw [ha, hb])
  intro k h1 h2
  by_cases hW : W = 0
  · subst hW; rw [ha] at h1; simp at h1
  have hk : k / W * W + k % W = k := by rw [Nat.mul_comm]; exact Nat.div_add_mod k W
  have := h (k % W) (k / W) (Nat.mod_lt _ (by omega)) (by
    rw [ha] at h1
    exact Nat.div_lt_of_lt_mul h1)
  rw [hk, List.getD_eq_getElem?_getD, List.getD_eq_getElem?_getD, List.getElem?_eq_getElem h1, List.getElem?_eq_getElem h2] at this
  exact this
/-- The framed picture in which a pixel is white. -/
theorem padL_set (hL : L.length = W * H) (hi : i < W) (hj : j < H) : padL (L.set (j * W + i) false) W H = (padL L W H).set ((j + 1) * (W + 2) + (i + 1)) false := by
  refine ext_bits (W := W + 2) (H := H + 2) (padL_len' _ _ _) (by rw [List.length_set, padL_len']) fun x y hx hy => ?_
  rw [← bit_in hx hy, ← bit_in hx hy, bit_set (padL_len' L W H) (show i + 1 < W + 2 by omega) (show j + 1 < H + 2 by omega)]
  have e1 := bit_pad (L.set (j * W + i) false) W H ((x : Int), (y : Int))
  have e2 := bit_pad L W H ((x : Int), (y : Int))
  have e1' : bit (padL (L.set (j * W + i) false) W H) (W + 2) (H + 2) x y = bit (L.set (j * W + i) false) W H ((x : Int) - 1) ((y : Int) - 1) := e1
  have e2' : bit (padL L W H) (W + 2) (H + 2) x y = bit L W H ((x : Int) - 1) ((y : Int) - 1) := e2
  rw [e1', e2', bit_set hL hi hj]
  by_cases h : (x : Int) - 1 = i ∧ (y : Int) - 1 = j
  · rw [if_pos h, if_pos (by omega)]
  · rw [if_neg h, if_neg (by omega)]
/-- The rings of the framed picture. -/
theorem ring_pad (hi : i < W) (hj : j < H) {c : Bool} {q : Int × Int} (h : ringB L W H c ((i : Int), (j : Int)) q = true) : okC (padL L W H) (W + 2) (H + 2) c (q.1 + 1, q.2 + 1) = true ∧ A8 ((i : Int) + 1, (j : Int) + 1) (q.1 + 1, q.2 + 1) := by
  obtain ⟨h1, h2⟩ := ringB_iff.1 h
  have h8 : A8 ((i : Int) + 1, (j : Int) + 1) (q.1 + 1, q.2 + 1) := by unfold A8 A4 at *; simp only at *; omega
  refine ⟨okC_iff.2 ⟨pcF_mem ?_, ?_⟩, h8⟩
  · unfold A8 A4 at h1; simp only at h1; omega
  · show (pcF L W H).col (q.1 + 1, q.2 + 1) = c
    rw [bit_pad]; simp only
    rw [show q.1 + 1 - 1 = q.1 by omega, show q.2 + 1 - 1 = q.2 by omega]; exact h2
theorem pad_ring {c : Bool} {q : Int × Int} (h8 : A8 ((i : Int) + 1, (j : Int) + 1) q) (h : (pcF L W H).col q = c) : ringB L W H c ((i : Int), (j : Int)) (q.1 + -1, q.2 + -1) = true := by
  rw [bit_pad] at h
  refine ringB_iff.2 ⟨?_, h⟩
  unfold A8 A4 at *; simp only at *; omega
theorem back (q : Int × Int) : ((q.1 + -1 + 1, q.2 + -1 + 1) : Int × Int) = q := Prod.ext (by simp only; omega) (by simp only; omega)
/-- What is reached around the pixel is reached in the framed picture without it. -/
theorem ring_rch (hi : i < W) (hj : j < H) {c e : Bool} (hs : sideP L W H c e ((i : Int), (j : Int))) {ok : Int × Int → Bool} (hok : ∀ q, okC (padL L W H) (W + 2) (H + 2) c q = true → q ≠ ((i : Int) + 1, (j : Int) + 1) → ok q = true)
    {n n' : Int × Int} (h1 : n ∈ nbC e ((i : Int) + 1, (j : Int) + 1)) (h2 : n' ∈ nbC e ((i : Int) + 1, (j : Int) + 1)) (c1 : (pcF L W H).col n = c) (c2 : (pcF L W H).col n' = c) : Rch (nbC e) ok n n' := by
  have m1 : (n.1 + -1, n.2 + -1) ∈ nbC e ((i : Int), (j : Int)) := by
    have := (nbC_shift e (-1) (-1) _ _).1 h1
    simp only at this
    rwa [show (i : Int) + 1 + -1 = i by omega, show (j : Int) + 1 + -1 = j by omega] at this
  have m2 : (n'.1 + -1, n'.2 + -1) ∈ nbC e ((i : Int), (j : Int)) := by
    have := (nbC_shift e (-1) (-1) _ _).1 h2
    simp only at this
    rwa [show (i : Int) + 1 + -1 = i by omega, show (j : Int) + 1 + -1 = j by omega] at this
  have := rch_shift (u := 1) (v := 1) (ok' := ok) (nbC_shift e 1 1) (fun z hz => by
    obtain ⟨k1, k2⟩ := ring_pad hi hj hz
    exact hok _ k1 k2.ne) (hs.2 _ _ m1 m2 (pad_ring (nbC_8 h1) c1) (pad_ring (nbC_8 h2) c2))
  simp only at this
  rw [back n, back n'] at this
  exact this
/-- The number of holes stays. -/
theorem hole_drop (hL : L.length = W * H) (hi : i < W) (hj : j < H) (hW : W ≤ 18) (hH : H ≤ 18) (hb : bit L W H i j = true) (hs : sideP L W H false (!e) ((i : Int), (j : Int))) : holeN e (L.set (j * W + i) false) W H = holeN e L W H := by
  have key : compN (!e) (invL (padL (L.set (j * W + i) false) W H) (W + 2) (H + 2)) (W + 2) (H + 2) = compN (!e) (invL (padL L W H) (W + 2) (H + 2)) (W + 2) (H + 2) := by
    obtain ⟨T1, t1, n1⟩ := compN_trv (!e) (invL (padL L W H) (W + 2) (H + 2)) (W := W + 2) (H := H + 2) (by omega) (by omega) (by omega)
    obtain ⟨T2, t2, n2⟩ := compN_trv (!e) (invL (padL (L.set (j * W + i) false) W H) (W + 2) (H + 2)) (W := W + 2) (H := H + 2) (by omega) (by omega) (by omega)
    rw [n1, n2]
    have O1 : ∀ z, okI (invL (padL L W H) (W + 2) (H + 2)) (W + 2) (H + 2) z = true ↔ (pcF L W H).has z ∧ (pcF L W H).col z = false := fun z => by rw [okI_inv, okC_iff]; rfl
    have cz : ∀ z, (pcF (L.set (j * W + i) false) W H).col z = if z = ((i : Int) + 1, (j : Int) + 1) then false else (pcF L W H).col z := fun z => by
      rw [bit_pad, bit_pad, bit_set hL hi hj]
      by_cases h : z = ((i : Int) + 1, (j : Int) + 1)
      · rw [if_pos h, if_pos (by rw [h]; simp only; omega)]
      · rw [if_neg h, if_neg (fun h2 => h (Prod.ext (by simp only; omega) (by simp only; omega)))]
    have O2 : ∀ z, okI (invL (padL (L.set (j * W + i) false) W H) (W + 2) (H + 2)) (W + 2) (H + 2) z = true ↔ (pcF L W H).has z ∧ (z = ((i : Int) + 1, (j : Int) + 1) ∨ (pcF L W H).col z = false) := fun z => by
      rw [okI_inv, okC_iff]
      show (pcF (L.set (j * W + i) false) W H).has z ∧ (pcF (L.set (j * W + i) false) W H).col z = false ↔ _
      rw [cz]
      have hh : (pcF (L.set (j * W + i) false) W H).has z ↔ (pcF L W H).has z := Iff.rfl
      rw [hh]
      by_cases h : z = ((i : Int) + 1, (j : Int) + 1)
      · rw [if_pos h]; exact ⟨fun k => ⟨k.1, .inl h⟩, fun k => ⟨k.1, rfl⟩⟩
      · rw [if_neg h]; exact ⟨fun k => ⟨k.1, .inr k.2⟩, fun k => ⟨k.1, k.2.resolve_left h⟩⟩
    have hX : (pcF L W H).has ((i : Int) + 1, (j : Int) + 1) := pcF_mem (by omega)
    have cX : (pcF L W H).col ((i : Int) + 1, (j : Int) + 1) = true := by
      rw [bit_pad]; simp only; rw [show (i : Int) + 1 - 1 = i by omega, show (j : Int) + 1 - 1 = j by omega]; exact hb
    refine (trv_drop (x := ((i : Int) + 1, (j : Int) + 1)) (nbC_sym (!e)) (fun z => ?_) ?_ (fun n n' h1 h2 k1 k2 => ?_) ?_ t1 t2).symm
    · rw [O1, O2]
      constructor
      · rintro ⟨h1, h2 | h2⟩
        · exact .inr h2
        · exact .inl ⟨h1, h2⟩
      · rintro (h | rfl)
        · exact ⟨h.1, .inr h.2⟩
        · exact ⟨hX, .inl rfl⟩
    · cases h : okI (invL (padL L W H) (W + 2) (H + 2)) (W + 2) (H + 2) ((i : Int) + 1, (j : Int) + 1) with
      | false => rfl
      | true => have := ((O1 _).1 h).2; rw [cX] at this; cases this
    · exact ring_rch hi hj hs (fun q hq _ => (O1 q).2 (okC_iff.1 hq)) h1 h2 ((O1 n).1 k1).2 ((O1 n').1 k2).2
    · obtain ⟨n, h1, h2⟩ := hs.1
      exact ⟨(n.1 + 1, n.2 + 1), (nbC_shift _ 1 1 _ _).1 h1, (O1 _).2 (okC_iff.1 (ring_pad hi hj h2).1)⟩
  unfold holeN
  rw [key]
/-- The tree stays. -/
theorem tree_drop (hL : L.length = W * H) (hi : i < W) (hj : j < H) (hb : bit L W H i j = true) (hs : simpleP L W H true ((i : Int), (j : Int))) : treeV L W H = treeV (L.set (j * W + i) false) W H := by
  obtain ⟨hsb, hsw⟩ := hs
  have cz : ∀ z, (pcF (L.set (j * W + i) false) W H).col z = ((pcF L W H).col z && decide (z ≠ ((i : Int) + 1, (j : Int) + 1))) := fun z => by
    rw [bit_pad, bit_pad, bit_set hL hi hj]
    by_cases h : z = ((i : Int) + 1, (j : Int) + 1)
    · rw [if_pos (by rw [h]; simp only; omega)]; simp [h]
    · rw [if_neg (fun h2 => h (Prod.ext (by simp only; omega) (by simp only; omega)))]; simp [h]
  have hX : (pcF L W H).has ((i : Int) + 1, (j : Int) + 1) := pcF_mem (by omega)
  have cX : (pcF L W H).col ((i : Int) + 1, (j : Int) + 1) = true := by
    rw [bit_pad]; simp only; rw [show (i : Int) + 1 - 1 = i by omega, show (j : Int) + 1 - 1 = j by omega]; exact hb
  have near : ∀ z, A8 ((i : Int) + 1, (j : Int) + 1) z → (pcF L W H).has z := fun z hz => by
    obtain ⟨zx, zy⟩ := z
    refine pcF_mem ?_
    unfold A8 A4 at hz; simp only at hz; omega
  have O : ∀ c z, okC (padL L W H) (W + 2) (H + 2) c z = true ↔ (pcF L W H).has z ∧ (pcF L W H).col z = c := fun c z => okC_iff
  have O' : ∀ c z, okC (padL (L.set (j * W + i) false) W H) (W + 2) (H + 2) c z = true ↔ (pcF L W H).has z ∧ ((pcF L W H).col z && decide (z ≠ ((i : Int) + 1, (j : Int) + 1))) = c := fun c z => by
    rw [okC_iff]
    show (pcF L W H).has z ∧ (pcF (L.set (j * W + i) false) W H).col z = c ↔ _
    rw [cz]
  have sP : ∀ c x y, okC (padL L W H) (W + 2) (H + 2) c x = true → (Rch (nbC c) (okC (padL L W H) (W + 2) (H + 2) c) x y ↔ (pcF L W H).Same x y) := fun c x y hx => rch_same (nbC_iff c) hx
  have sQ : ∀ c x y, okC (padL (L.set (j * W + i) false) W H) (W + 2) (H + 2) c x = true → (Rch (nbC c) (okC (padL (L.set (j * W + i) false) W H) (W + 2) (H + 2) c) x y ↔ (pcF (L.set (j * W + i) false) W H).Same x y) := fun c x y hx => rch_same (nbC_iff c) hx
  have G : Goes (pcF L W H) (pcF (L.set (j * W + i) false) W H) ((i : Int) + 1, (j : Int) + 1) := by
    refine ⟨cz, fun z => Iff.rfl, cX, near, hX, ?_, ?_, fun z z' hz hz' => ?_, fun w w' h1 h2 c1 c2 => ?_⟩
    · obtain ⟨n, h1, h2⟩ := hsb.1
      exact ⟨_, (ring_pad hi hj h2).2, ((O _ _).1 (ring_pad hi hj h2).1).2⟩
    · obtain ⟨n, h1, h2⟩ := hsw.1
      have := (nbC_shift (!true) 1 1 _ _).1 h1
      rw [mem_nbC] at this
      exact ⟨_, this, ((O _ _).1 (ring_pad hi hj h2).1).2⟩
    · have eq1 : (pcF (L.set (j * W + i) false) W H).col z = (pcF L W H).col z := by rw [cz]; simp [hz]
      have eq2 : (pcF (L.set (j * W + i) false) W H).col z' = (pcF L W H).col z' := by rw [cz]; simp [hz']
      by_cases hh : ¬ ((pcF L W H).has z ∧ (pcF L W H).has z')
      · constructor
        · intro k; exact absurd ⟨k.hasL, k.hasR⟩ hh
        · intro k; exact absurd ⟨k.hasL, k.hasR⟩ hh
      replace hh := Classical.not_not.1 hh
      by_cases hcc : ¬ ((pcF L W H).col z = (pcF L W H).col z')
      · constructor
        · intro k; exact absurd k.col.symm hcc
        · intro k; have := k.col; rw [eq1, eq2] at this; exact absurd this.symm hcc
      replace hcc := Classical.not_not.1 hcc
      cases hc : (pcF L W H).col z with
      | true =>
        have hc' : (pcF L W H).col z' = true := by rw [← hcc, hc]
        have o1 := (O true z).2 ⟨hh.1, hc⟩
        have o1' := (O' true z).2 ⟨hh.1, by simp [hc, hz]⟩
        have o2' := (O' true z').2 ⟨hh.2, by simp [hc', hz']⟩
        rw [← sP true z z' o1, ← sQ true z z' o1']
        constructor
        · intro k
          refine reroute (x := ((i : Int) + 1, (j : Int) + 1)) (nbC_sym true) (fun q => ?_) ?_ (fun n n' h1 h2 k1 k2 => ?_) o1' o2' k
          · rw [O, O']
            constructor
            · rintro ⟨h1, h2⟩
              by_cases e : q = ((i : Int) + 1, (j : Int) + 1)
              · exact .inr e
              · exact .inl ⟨h1, by simp [h2, e]⟩
            · rintro (h | rfl)
              · have h2 := h.2
                rw [Bool.and_eq_true] at h2
                exact ⟨h.1, h2.1⟩
              · exact ⟨hX, cX⟩
          · cases h : okC (padL (L.set (j * W + i) false) W H) (W + 2) (H + 2) true ((i : Int) + 1, (j : Int) + 1) with
            | false => rfl
            | true => have := ((O' _ _).1 h).2; simp at this
          · have g1 := ((O' _ _).1 k1).2
            have g2 := ((O' _ _).1 k2).2
            rw [Bool.and_eq_true] at g1 g2
            exact ring_rch hi hj hsb (fun q hq hne => (O' _ _).2 ⟨((O _ _).1 hq).1, by simp [((O _ _).1 hq).2, hne]⟩) h1 h2 g1.1 g2.1
        · intro k
          refine k.more fun q hq => (O _ _).2 ⟨((O' _ _).1 hq).1, ?_⟩
          have := ((O' _ _).1 hq).2
          rw [Bool.and_eq_true] at this
          exact this.1
      | false =>
        have hc' : (pcF L W H).col z' = false := by rw [← hcc, hc]
        have o1 := (O false z).2 ⟨hh.1, hc⟩
        have o2 := (O false z').2 ⟨hh.2, hc'⟩
        have o1' := (O' false z).2 ⟨hh.1, by simp [hc]⟩
        rw [← sP false z z' o1, ← sQ false z z' o1']
        constructor
        · intro k
          exact k.more fun q hq => (O' _ _).2 ⟨((O _ _).1 hq).1, by simp [((O _ _).1 hq).2]⟩
        · intro k
          refine reroute (x := ((i : Int) + 1, (j : Int) + 1)) (nbC_sym false) (fun q => ?_) ?_ (fun n n' h1 h2 k1 k2 => ring_rch hi hj hsw (fun q hq _ => hq) h1 h2 ((O _ _).1 k1).2 ((O _ _).1 k2).2) o1 o2 k
          · rw [O, O']
            constructor
            · rintro ⟨h1, h2⟩
              by_cases e : q = ((i : Int) + 1, (j : Int) + 1)
              · exact .inr e
              · refine .inl ⟨h1, ?_⟩
                simpa [e] using h2
            · rintro (h | rfl)
              · exact ⟨h.1, by simp [h.2]⟩
              · exact ⟨hX, by simp⟩
          · cases h : okC (padL L W H) (W + 2) (H + 2) false ((i : Int) + 1, (j : Int) + 1) with
            | false => rfl
            | true => have := ((O _ _).1 h).2; rw [cX] at this; cases this
    · have o1 := (O false w).2 ⟨near w (.inl h1), c1⟩
      have m : ∀ u, A4 ((i : Int) + 1, (j : Int) + 1) u → u ∈ nbC false ((i : Int) + 1, (j : Int) + 1) := fun u hu => by rw [mem_nbC]; exact hu
      rw [← sP false w w' o1]
      exact ring_rch hi hj hsw (fun q hq _ => hq) (m w h1) (m w' h2) c1 c2
  refine tree_iso G.iso ⟨(0, 0), ?_, .start (pcF_has L W H), .start (pcF_has _ W H)⟩
  intro h
  have := congrArg Prod.fst h
  simp only at this
  omega
end
end Go.Proofs.YtdhajndmebnknaaGreat
