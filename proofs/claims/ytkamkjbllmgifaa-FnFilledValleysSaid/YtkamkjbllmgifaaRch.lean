/- A search in breadth from some places: the queue and how far its places are. Plain. What is reached from a place over good places; labels of what is reached. Plain. -/
import Derived.Test.YtkamkjbllmgifaaBase
namespace Go.Proofs.Ytkamkjbllmgifaa
open Go.RowKit

structure BS (α : Type) where
  Q : List α
  f : α → Option Nat
section
variable {α : Type} [DecidableEq α]
/-- A place is met at the distance d. -/
def BS.see (ok : α → Bool) (d : Nat) (s : BS α) (q : α) : BS α :=
  if ok q && (s.f q).isNone then ⟨s.Q ++ [q], fun x => if x = q then some d else s.f x⟩ else s
def BS.sees (ok : α → Bool) (d : Nat) (s : BS α) (l : List α) : BS α := l.foldl (BS.see ok d) s

variable (nb : α → List α) (ok : α → Bool) (st : α → Prop)
/-- The state with the places before i done, and of those of the place i the neighbours in S. -/
structure BInv (s : BS α) (i : Nat) (S : α → Prop) : Prop where
  nodup : s.Q.Nodup
  mem : ∀ q, (s.f q).isSome = true ↔ q ∈ s.Q
  good : ∀ q, q ∈ s.Q → ok q = true
  from_ : ∀ q, st q → ok q = true → s.f q = some 0
  done : ∀ j q (hj : j < s.Q.length), (j < i ∨ j = i ∧ S q) → q ∈ nb s.Q[j] → ok q = true → ∃ d e, s.f s.Q[j] = some d ∧ s.f q = some e ∧ e ≤ d + 1
  pred : ∀ q d, s.f q = some d → (d = 0 ∧ st q) ∨ ∃ p e, s.f p = some e ∧ d = e + 1 ∧ q ∈ nb p
  mono : ∀ a b (ha : a < s.Q.length) (hb : b < s.Q.length) d e, a ≤ b → s.f s.Q[a] = some d → s.f s.Q[b] = some e → d ≤ e
  near : ∀ b (hi : i < s.Q.length) (hb : b < s.Q.length) d e, s.f s.Q[i] = some d → s.f s.Q[b] = some e → e ≤ d + 1
  short : ∀ q d, s.f q = some d → d < s.Q.length
  le : i ≤ s.Q.length

variable {nb ok st}
theorem BInv.see {s : BS α} {i : Nat} {S : α → Prop} (h : BInv nb ok st s i S) (hi : i < s.Q.length) {d : Nat} (hd : s.f s.Q[i] = some d) {q : α} (hq : q ∈ nb s.Q[i]) :
    BInv nb ok st (s.see ok (d + 1) q) i (fun x => S x ∨ x = q) ∧ ∀ hi' : i < (s.see ok (d + 1) q).Q.length, (s.see ok (d + 1) q).Q[i] = s.Q[i] ∧ (s.see ok (d + 1) q).f s.Q[i] = some d := by
  unfold BS.see
  by_cases hc : (ok q && (s.f q).isNone) = true
  · rw [if_pos hc]
    rw [Bool.and_eq_true] at hc
    obtain ⟨hok, hn⟩ := hc
    have hn' : s.f q = none := by simpa using hn
    have hnm : q ∉ s.Q := by rw [← h.mem, hn']; simp
    have keep : ∀ x, x ∈ s.Q → (if x = q then some (d + 1) else s.f x) = s.f x := by
      intro x hx
      rw [if_neg]; rintro rfl; exact hnm hx
    have keepS : ∀ x e, s.f x = some e → (if x = q then some (d + 1) else s.f x) = some e := by
      intro x e hx
      rw [if_neg]; exact hx; rintro rfl; rw [hn'] at hx; cases hx
    have hdl := h.short _ _ hd
    refine ⟨⟨?_, ?_, ?_, ?_, ?_, ?_, ?_, ?_, ?_, ?_⟩, ?_⟩
    · rw [List.nodup_append]
      exact ⟨h.nodup, by simp, by rintro a ha b hb rfl; simp at hb; subst hb; exact hnm ha⟩
    · intro x
      by_cases e : x = q
      · subst e; simp
      · simp only [List.mem_append, List.mem_singleton, e, or_false]; exact h.mem x
    · intro x hx
      rcases List.mem_append.1 hx with hx | hx
      · exact h.good x hx
      · simp at hx; subst hx; exact hok
    · intro x hx hokx
      exact keepS x 0 (h.from_ x hx hokx)
    · intro j x hj hjx hx hokx
      simp only [List.length_append, List.length_singleton] at hj
      have hji : j ≤ i := by omega
      have ej : (s.Q ++ [q])[j]'(by simp; omega) = s.Q[j] := List.getElem_append_left (by omega)
      simp only [ej] at hx ⊢
      rw [keep _ (List.getElem_mem _)]
      by_cases e : x = q
      · subst e
        rcases hjx with hjx | ⟨rfl, hjx⟩
        · obtain ⟨d', e', h1, h2, h3⟩ := h.done j x (by omega) (.inl hjx) hx hokx
          rw [hn'] at h2; cases h2
        · exact ⟨d, d + 1, hd, by simp, Nat.le_refl _⟩
      · have := h.done j x (by omega) (by
          rcases hjx with hjx | ⟨h1, h2⟩
          · exact .inl hjx
          · exact .inr ⟨h1, h2.resolve_right e⟩) hx hokx
        simpa [e] using this
    · intro x e hx
      by_cases ex : x = q
      · subst ex
        simp at hx
        subst hx
        exact .inr ⟨s.Q[i], d, keepS _ _ hd, rfl, hq⟩
      · simp only [if_neg ex] at hx
        rcases h.pred x e hx with h1 | ⟨p, e', h1, h2, h3⟩
        · exact .inl h1
        · exact .inr ⟨p, e', keepS _ _ h1, h2, h3⟩
    · intro a b ha hb d1 d2 hab h1 h2
      simp only [List.length_append, List.length_singleton] at ha hb
      by_cases hbl : b < s.Q.length
      · have ea : (s.Q ++ [q])[a]'(by simp; omega) = s.Q[a]'(by omega) := List.getElem_append_left (by omega)
        have eb : (s.Q ++ [q])[b]'(by simp; omega) = s.Q[b] := List.getElem_append_left hbl
        simp only [ea, eb] at h1 h2
        rw [keep _ (List.getElem_mem _)] at h1 h2
        exact h.mono a b (by omega) hbl d1 d2 hab h1 h2
      · obtain rfl : b = s.Q.length := by omega
        have eb : (s.Q ++ [q])[s.Q.length]'(by simp) = q := by simp
        simp only [eb, if_true] at h2
        cases h2
        by_cases hal : a < s.Q.length
        · have ea : (s.Q ++ [q])[a]'(by simp; omega) = s.Q[a] := List.getElem_append_left hal
          simp only [ea] at h1
          rw [keep _ (List.getElem_mem _)] at h1
          exact h.near a hi hal d d1 hd h1
        · obtain rfl : a = s.Q.length := by omega
          simp only [eb, if_true] at h1
          cases h1
          exact Nat.le_refl _
    · intro b hi' hb d1 d2 h1 h2
      simp only [List.length_append, List.length_singleton] at hb
      have ei : (s.Q ++ [q])[i]'(by simp; omega) = s.Q[i] := List.getElem_append_left hi
      simp only [ei] at h1
      rw [keep _ (List.getElem_mem _)] at h1
      by_cases hbl : b < s.Q.length
      · have eb : (s.Q ++ [q])[b]'(by simp; omega) = s.Q[b] := List.getElem_append_left hbl
        simp only [eb] at h2
        rw [keep _ (List.getElem_mem _)] at h2
        exact h.near b hi hbl d1 d2 h1 h2
      · obtain rfl : b = s.Q.length := by omega
        have eb : (s.Q ++ [q])[s.Q.length]'(by simp) = q := by simp
        simp only [eb, if_true] at h2
        cases h2
        rw [hd] at h1
        cases h1
        exact Nat.le_refl _
    · intro x e hx
      simp only [List.length_append, List.length_singleton]
      by_cases ex : x = q
      · subst ex; simp at hx; omega
      · simp only [if_neg ex] at hx
        have := h.short x e hx
        omega
    · simp; omega
    · intro hi'
      exact ⟨List.getElem_append_left hi, keepS _ _ hd⟩
  · rw [if_neg hc]
    refine ⟨{ h with done := ?_ }, fun _ => ⟨rfl, hd⟩⟩
    intro j x hj hjx hx hokx
    by_cases e : j = i ∧ x = q
    · obtain ⟨rfl, rfl⟩ := e
      have : (s.f x).isSome = true := by
        rw [Bool.and_eq_true] at hc
        cases hf : s.f x
        · exact absurd ⟨hokx, by simp [hf]⟩ hc
        · rfl
      obtain ⟨e, he⟩ := Option.isSome_iff_exists.1 this
      obtain ⟨b, hb, hbe⟩ := List.getElem_of_mem ((h.mem x).1 this)
      exact ⟨d, e, hd, he, h.near b hi hb d e hd (by rw [hbe]; exact he)⟩
    · refine h.done j x hj ?_ hx hokx
      rcases hjx with hjx | ⟨h1, h2 | h2⟩
      · exact .inl hjx
      · exact .inr ⟨h1, h2⟩
      · exact absurd ⟨h1, h2⟩ e
omit [DecidableEq α] in
/-- All of a place's neighbours are seen. -/
theorem BInv.next {s : BS α} {i : Nat} {S : α → Prop} (h : BInv nb ok st s i S) (hi : i < s.Q.length) (hS : ∀ q, q ∈ nb s.Q[i] → ok q = true → S q) : BInv nb ok st s (i + 1) (fun _ => False) := by
  obtain ⟨d, hd⟩ := Option.isSome_iff_exists.1 ((h.mem s.Q[i]).2 (List.getElem_mem _))
  refine { h with done := ?_, near := ?_, le := hi }
  · intro j q hj hjq hq hok
    rcases hjq with hjq | ⟨_, hf⟩
    · by_cases e : j = i
      · subst e; exact h.done j q hj (.inr ⟨rfl, hS q hq hok⟩) hq hok
      · exact h.done j q hj (.inl (by omega)) hq hok
    · exact hf.elim
  · intro b hi' hb d1 d2 h1 h2
    have a1 := h.mono i (i + 1) hi hi' d d1 (by omega) hd h1
    have a2 := h.near b hi hb d d2 hd h2
    omega
/-- Many neighbours. -/
theorem BS.sees_succ (ok : α → Bool) (d : Nat) (s : BS α) (l : List α) (j : Nat) (hj : j < l.length) : s.sees ok d (l.take (j + 1)) = (s.sees ok d (l.take j)).see ok d l[j] := by
  unfold BS.sees
  rw [List.take_succ_eq_append_getElem hj, List.foldl_append]
  rfl
theorem BInv.sees {s : BS α} {i : Nat} (h : BInv nb ok st s i (fun _ => False)) (hi : i < s.Q.length) {d : Nat} (hd : s.f s.Q[i] = some d) (l : List α) (hl : ∀ q ∈ l, q ∈ nb s.Q[i]) : ∀ j, j ≤ l.length →
    BInv nb ok st (s.sees ok (d + 1) (l.take j)) i (fun x => x ∈ l.take j) ∧ (∃ hi' : i < (s.sees ok (d + 1) (l.take j)).Q.length, (s.sees ok (d + 1) (l.take j)).Q[i] = s.Q[i] ∧ (s.sees ok (d + 1) (l.take j)).f s.Q[i] = some d) := by
  intro j
  induction j with
  | zero =>
    intro _
    exact ⟨by simpa [BS.sees] using h, hi, rfl, hd⟩
  | succ j ih =>
    intro hj
    obtain ⟨h1, hi1, e1, h2⟩ := ih (by omega)
    have hq := hl l[j] (List.getElem_mem _)
    rw [← e1] at hq h2
    have h3 := h1.see hi1 h2 hq
    rw [BS.sees_succ ok (d + 1) s l j hj]
    have hle : (s.sees ok (d + 1) (l.take j)).Q.length ≤ ((s.sees ok (d + 1) (l.take j)).see ok (d + 1) l[j]).Q.length := by
      unfold BS.see; split <;> simp
    obtain ⟨h4, h5⟩ := h3
    obtain ⟨h6, h7⟩ := h5 (by omega)
    refine ⟨?_, by omega, by rw [h6, e1], by rw [← e1]; exact h7⟩
    have : (fun x => x ∈ l.take (j + 1)) = fun x => x ∈ l.take j ∨ x = l[j] := by
      funext x
      rw [List.take_succ_eq_append_getElem hj, List.mem_append, List.mem_singleton]
    rw [this]
    exact h4
omit [DecidableEq α] in
/-- At the end all neighbours of what is reached are reached, one step farther at most. -/
theorem BInv.closed {s : BS α} (h : BInv nb ok st s s.Q.length (fun _ => False)) {p q : α} {d : Nat} (hp : s.f p = some d) (hq : q ∈ nb p) (hok : ok q = true) : ∃ e, s.f q = some e ∧ e ≤ d + 1 := by
  obtain ⟨j, hj, hje⟩ := List.getElem_of_mem ((h.mem p).1 (by rw [hp]; rfl))
  obtain ⟨d', e, h1, h2, h3⟩ := h.done j q hj (.inl hj) (by rw [hje]; exact hq) hok
  rw [hje, hp] at h1
  cases h1
  exact ⟨e, h2, h3⟩
/-- The start at one place. -/
theorem BInv.one {a : α} (ha : ok a = true) : BInv nb ok (fun x => x = a) ⟨[a], fun x => if x = a then some 0 else none⟩ 0 (fun _ => False) := by
  have key : ∀ x d, (if x = a then some 0 else none : Option Nat) = some d → x = a ∧ d = 0 := by
    intro x d h
    split at h
    · rename_i e; cases h; exact ⟨e, rfl⟩
    · cases h
  refine ⟨by simp, ?_, ?_, ?_, ?_, ?_, ?_, ?_, ?_, by simp⟩
  · intro q; by_cases e : q = a <;> simp [e]
  · intro q hq; simp at hq; subst hq; exact ha
  · intro q hq _; subst hq; simp
  · intro j q hj hjq
    rcases hjq with h | ⟨_, h⟩
    · omega
    · exact h.elim
  · intro q d h
    obtain ⟨rfl, rfl⟩ := key q d h
    exact .inl ⟨rfl, rfl⟩
  · intro a' b ha' hb d e _ h1 h2
    have := (key _ _ h1).2; have := (key _ _ h2).2; omega
  · intro b _ _ d e h1 h2
    have := (key _ _ h1).2; have := (key _ _ h2).2; omega
  · intro q d h
    have := (key _ _ h).2; simp; omega
end
section
variable {α : Type} [DecidableEq α]
/-- A round: the place at i is done. -/
def BS.round (nb : α → List α) (ok : α → Bool) (s : BS α) (i : Nat) : BS α :=
  match s.Q[i]? with
  | none => s
  | some q => s.sees ok ((s.f q).getD 0 + 1) (nb q)
def BS.after (nb : α → List α) (ok : α → Bool) (s : BS α) : Nat → BS α
  | 0 => s
  | i + 1 => (BS.after nb ok s i).round nb ok i
variable {nb : α → List α} {ok : α → Bool} {st : α → Prop}
theorem BS.after_succ {s : BS α} {i d : Nat} (hi : i < (s.after nb ok i).Q.length) (hd : (s.after nb ok i).f (s.after nb ok i).Q[i] = some d) : s.after nb ok (i + 1) = (s.after nb ok i).sees ok (d + 1) (nb (s.after nb ok i).Q[i]) := by
  rw [BS.after, BS.round, List.getElem?_eq_getElem hi]
  simp only [hd, Option.getD_some]
theorem BS.after_end {s : BS α} {i : Nat} (hi : (s.after nb ok i).Q.length ≤ i) : ∀ j, i ≤ j → s.after nb ok j = s.after nb ok i := by
  intro j
  induction j with
  | zero => intro h; obtain rfl : i = 0 := by omega
            rfl
  | succ j ih =>
    intro h
    by_cases e : i = j + 1
    · rw [e]
    · have := ih (by omega)
      rw [BS.after, this, BS.round, List.getElem?_eq_none (by omega)]
omit [DecidableEq α] in
theorem BInv.dist {s : BS α} {i : Nat} {S : α → Prop} (h : BInv nb ok st s i S) (k : Nat) (hk : k < s.Q.length) : ∃ d, s.f s.Q[k] = some d ∧ d < s.Q.length := by
  obtain ⟨d, hd⟩ := Option.isSome_iff_exists.1 ((h.mem s.Q[k]).2 (List.getElem_mem _))
  exact ⟨d, hd, h.short _ _ hd⟩
theorem BInv.after {s : BS α} {i : Nat} (h : BInv nb ok st (s.after nb ok i) i (fun _ => False)) (hi : i < (s.after nb ok i).Q.length) : BInv nb ok st (s.after nb ok (i + 1)) (i + 1) (fun _ => False) := by
  obtain ⟨d, hd, _⟩ := h.dist i hi
  obtain ⟨h1, h2, e1, _⟩ := h.sees hi hd (nb (s.after nb ok i).Q[i]) (fun _ h => h) _ (Nat.le_refl _)
  rw [List.take_length] at h1 h2
  simp only [List.take_length] at e1
  rw [BS.after_succ hi hd]
  exact h1.next h2 (fun q hq _ => by rw [e1] at hq; exact hq)
end

theorem nodup_len : ∀ (n : Nat) (l : List Nat), l.Nodup → (∀ x ∈ l, x < n) → l.length ≤ n := by
  intro n
  induction n with
  | zero => intro l _ h; cases l with
            | nil => simp
            | cons a r => exact absurd (h a (by simp)) (by omega)
  | succ n ih =>
    intro l hn h
    have h1 := ih (l.erase n) (hn.erase n) (fun x hx => by
      have h2 := h x (List.mem_of_mem_erase hx)
      have h3 : x ≠ n := by rintro rfl; exact (hn.not_mem_erase) hx
      omega)
    have h4 := List.length_erase (a := n) (l := l)
    split at h4 <;> omega

end Go.Proofs.Ytkamkjbllmgifaa

namespace Go.Proofs.Ytkamkjbllmgifaa
open Go.RowKit

/-- Good places are few and near. -/
structure OkB (ok : Int × Int → Bool) (N : Nat) : Prop where
  pos : ∃ f : Int × Int → Nat, (∀ q, ok q = true → f q < N) ∧ ∀ a b, ok a = true → ok b = true → f a = f b → a = b
  bd : ∀ q, ok q = true → (-20 ≤ q.1 ∧ q.1 ≤ 20) ∧ (-20 ≤ q.2 ∧ q.2 ≤ 20)
section
variable {nb : Int × Int → List (Int × Int)} {ok : Int × Int → Bool} {N L : Nat} {a : Int × Int}
theorem OkB.len (h : OkB ok N) {st : Int × Int → Prop} {s : BS (Int × Int)} {i : Nat} {S : Int × Int → Prop} (I : BInv nb ok st s i S) : s.Q.length ≤ N := by
  obtain ⟨f, h1, h2⟩ := h.pos
  have := nodup_len N (s.Q.map f) ?_ ?_
  · simpa using this
  · rw [List.Nodup, List.pairwise_map]
    refine List.Pairwise.imp_of_mem ?_ I.nodup
    intro x y hx hy hne he
    exact hne (h2 x y (I.good x hx) (I.good y hy) he)
  · intro x hx
    obtain ⟨q, hq, rfl⟩ := List.mem_map.1 hx
    exact h1 q (I.good q hq)
theorem OkB.pos_ (h : OkB ok N) (ha : ok a = true) : 0 < N := by
  obtain ⟨f, h1, _⟩ := h.pos
  have := h1 a ha
  omega

def rch0 (a : Int × Int) : BS (Int × Int) := ⟨[a], fun x => if x = a then some 0 else none⟩
def rchS (nb : Int × Int → List (Int × Int)) (ok : Int × Int → Bool) (a : Int × Int) (i : Nat) : BS (Int × Int) := (rch0 a).after nb ok i
abbrev RInv (nb : Int × Int → List (Int × Int)) (ok : Int × Int → Bool) (a : Int × Int) (s : BS (Int × Int)) (i : Nat) : Prop := BInv nb ok (fun x => x = a) s i (fun _ => False)
theorem rchS_zero (ha : ok a = true) : RInv nb ok a (rchS nb ok a 0) 0 := BInv.one ha
theorem rchS_succ {i : Nat} (h : RInv nb ok a (rchS nb ok a i) i) (hi : i < (rchS nb ok a i).Q.length) : RInv nb ok a (rchS nb ok a (i + 1)) (i + 1) := BInv.after h hi
theorem rchS_all (ha : ok a = true) : ∀ i, (∀ j, j < i → j < (rchS nb ok a j).Q.length) → RInv nb ok a (rchS nb ok a i) i := by
  intro i
  induction i with
  | zero => intro _; exact rchS_zero ha
  | succ i ih => intro h; exact rchS_succ (ih (fun j hj => h j (by omega))) (h i (by omega))
/-- A round of the search, in the words of its walk. -/
def RchR (nb : Int × Int → List (Int × Int)) (ok : Int × Int → Bool) (N L : Nat) (a : Int × Int) (i : Nat) : Prop :=
  ∃ (p : Int × Int) (d : Nat) (T : Nat → BS (Int × Int)), ok p = true ∧ (rchS nb ok a i).Q.drop i = p :: (rchS nb ok a i).Q.drop (i + 1) ∧ T 0 = rchS nb ok a i ∧
    (∀ j, j < L → T (j + 1) = (T j).see ok (d + 1) ((nb p).getD j (0, 0))) ∧
    (∀ j, j ≤ L → i < (T j).Q.length ∧ (T j).Q.length ≤ N ∧ (T j).Q.drop i = p :: (T j).Q.drop (i + 1)) ∧
    T L = rchS nb ok a (i + 1) ∧ RInv nb ok a (rchS nb ok a (i + 1)) (i + 1)
theorem rchR_of (hB : OkB ok N) (hL : ∀ p, (nb p).length = L) {i : Nat} (h : RInv nb ok a (rchS nb ok a i) i) (hi : i < (rchS nb ok a i).Q.length) : RchR nb ok N L a i := by
  obtain ⟨d, hd, hdl⟩ := h.dist i hi
  have hgood := h.good _ (List.getElem_mem hi)
  obtain ⟨p, hp⟩ : ∃ p, (rchS nb ok a i).Q[i] = p := ⟨_, rfl⟩
  have S := h.sees hi hd (nb (rchS nb ok a i).Q[i]) (fun _ h => h)
  rw [hp] at S hgood
  have hlen := hL p
  refine ⟨p, d, fun j => (rchS nb ok a i).sees ok (d + 1) ((nb p).take j), hgood, ?_, rfl, ?_, ?_, ?_, rchS_succ h hi⟩
  · rw [← hp]; exact List.drop_eq_getElem_cons hi
  · intro j hj
    have := BS.sees_succ ok (d + 1) (rchS nb ok a i) (nb p) j (by omega)
    simp only at this ⊢
    rw [this, List.getD_eq_getElem?_getD, List.getElem?_eq_getElem (by omega), Option.getD_some]
  · intro j hj
    obtain ⟨s1, s2, s3, s4⟩ := S j (by omega)
    refine ⟨s2, hB.len s1, ?_⟩
    have e := List.drop_eq_getElem_cons s2
    rw [s3] at e
    exact e
  · have := BS.after_succ (nb := nb) (ok := ok) (s := rch0 a) hi hd
    simp only
    rw [List.take_of_length_le (by omega), ← hp]
    exact this.symm
/-- All that is reached. -/
def rchF (nb : Int × Int → List (Int × Int)) (ok : Int × Int → Bool) (N : Nat) (a : Int × Int) : Int × Int → Option Nat := (rchS nb ok a N).f
theorem rchS_end (hB : OkB ok N) {i : Nat} (h : RInv nb ok a (rchS nb ok a i) i) (hi : ¬ i < (rchS nb ok a i).Q.length) : (rchS nb ok a i).f = rchF nb ok N a ∧ RInv nb ok a (rchS nb ok a N) (rchS nb ok a N).Q.length := by
  have hl := hB.len h
  have he := h.le
  have e : i = (rchS nb ok a i).Q.length := by omega
  have e2 := BS.after_end (nb := nb) (ok := ok) (s := rch0 a) (i := i) (by show (rchS nb ok a i).Q.length ≤ i; omega) N (by omega)
  have e3 : rchS nb ok a N = rchS nb ok a i := e2
  unfold rchF
  rw [e3]
  refine ⟨rfl, ?_⟩
  rw [← e]
  exact h
/-- The search comes to its end. -/
theorem rch_last (hB : OkB ok N) (ha : ok a = true) : RInv nb ok a (rchS nb ok a N) (rchS nb ok a N).Q.length := by
  have key : ∀ i, (∀ j, j < i → j < (rchS nb ok a j).Q.length) ∨ ∃ j, j < i ∧ ¬ j < (rchS nb ok a j).Q.length ∧ RInv nb ok a (rchS nb ok a j) j := by
    intro i
    induction i with
    | zero => exact .inl (fun j h => absurd h (Nat.not_lt_zero _))
    | succ i ih =>
      rcases ih with h | ⟨j, h1, h2, h3⟩
      · have hi := rchS_all (nb := nb) ha i h
        by_cases e : i < (rchS nb ok a i).Q.length
        · refine .inl (fun j hj => ?_)
          by_cases ej : j = i
          · subst ej; exact e
          · exact h j (by omega)
        · exact .inr ⟨i, by omega, e, hi⟩
      · exact .inr ⟨j, by omega, h2, h3⟩
  rcases key (N + 1) with h | ⟨j, h1, h2, h3⟩
  · have h4 := rchS_all (nb := nb) ha N (fun j hj => h j (by omega))
    have h5 := h N (by omega)
    have h6 := hB.len h4
    omega
  · exact (rchS_end hB h3 h2).2
/-- Whether a place is reached. -/
def rchB (nb : Int × Int → List (Int × Int)) (ok : Int × Int → Bool) (N : Nat) (a q : Int × Int) : Bool := (rchF nb ok N a q).isSome
/-- What is reached, said without a search. -/
inductive Rch (nb : Int × Int → List (Int × Int)) (ok : Int × Int → Bool) (a : Int × Int) : Int × Int → Prop
  | start : ok a = true → Rch nb ok a a
  | step (p q : Int × Int) : Rch nb ok a p → q ∈ nb p → ok q = true → Rch nb ok a q
theorem rchB_iff (hB : OkB ok N) (ha : ok a = true) {q : Int × Int} : rchB nb ok N a q = true ↔ Rch nb ok a q := by
  have I := rch_last (nb := nb) hB ha
  constructor
  · intro h
    obtain ⟨d, hd⟩ := Option.isSome_iff_exists.1 h
    have key : ∀ d q, rchF nb ok N a q = some d → Rch nb ok a q := by
      intro d
      induction d with
      | zero =>
        intro q hq
        rcases I.pred q 0 hq with ⟨_, rfl⟩ | ⟨p, e, _, h2, _⟩
        · exact .start ha
        · omega
      | succ d ih =>
        intro q hq
        rcases I.pred q _ hq with ⟨h1, _⟩ | ⟨p, e, h1, h2, h3⟩
        · omega
        · obtain rfl : e = d := by omega
          exact .step p q (ih p h1) h3 (I.good q ((I.mem q).1 (by rw [show (rchS nb ok a N).f q = some (e + 1) from hq]; rfl)))
    exact key d q hd
  · intro h
    induction h with
    | start _ =>
      have := I.from_ a rfl ha
      rw [rchB, rchF, this]; rfl
    | step p q _ hq hok ih =>
      obtain ⟨d, hd⟩ := Option.isSome_iff_exists.1 ih
      obtain ⟨e, he, _⟩ := I.closed hd hq hok
      rw [rchB, rchF, he]; rfl
theorem rchB_good (hB : OkB ok N) (ha : ok a = true) {q : Int × Int} (h : rchB nb ok N a q = true) : ok q = true := by
  cases (rchB_iff hB ha).1 h with
  | start _ => exact ha
  | step p _ _ _ h2 => exact h2
end

/-- A place is given its label, and all that is reached from it. -/
def labStep (R : Int × Int → Int × Int → Bool) (st : (Int × Int → Nat) × Nat) (s : Int × Int) : (Int × Int → Nat) × Nat :=
  if 0 < st.1 s then st else (fun q => if R s q then st.2 + 1 else st.1 q, st.2 + 1)
def labL (R : Int × Int → Int × Int → Bool) (l : List (Int × Int)) : (Int × Int → Nat) × Nat := l.foldl (labStep R) (fun _ => 0, 0)
theorem labL_succ (R : Int × Int → Int × Int → Bool) (l : List (Int × Int)) (k : Nat) (hk : k < l.length) : labL R (l.take (k + 1)) = labStep R (labL R (l.take k)) l[k] := by
  unfold labL
  rw [List.take_succ_eq_append_getElem hk, List.foldl_append]
  rfl
theorem labL_le (R : Int × Int → Int × Int → Bool) (l : List (Int × Int)) : ∀ k, k ≤ l.length → (labL R (l.take k)).2 ≤ k ∧ ∀ q, (labL R (l.take k)).1 q ≤ k := by
  intro k
  induction k with
  | zero => intro _; simp [labL]
  | succ k ih =>
    intro hk
    obtain ⟨h1, h2⟩ := ih (by omega)
    rw [labL_succ R l k (by omega), labStep]
    split
    · exact ⟨by omega, fun q => by have := h2 q; omega⟩
    · refine ⟨by simp only; omega, fun q => ?_⟩
      simp only
      split
      · omega
      · have := h2 q; omega
end Go.Proofs.Ytkamkjbllmgifaa
