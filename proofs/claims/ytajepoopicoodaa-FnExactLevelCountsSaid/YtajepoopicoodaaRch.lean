/- What is reached from a place over good places; labels of what is reached. Plain. -/
import Derived.Test.YtajepoopicoodaaBfs
namespace Go.Proofs.Ytajepoopicoodaa
open Go.RowKit

/-- Good places are few and near. -/
structure OkB (ok : Int × Int → Bool) (N : Nat) : Prop where
  pos : ∃ f : Int × Int → Nat, (∀ q, ok q = true → f q < N) ∧ ∀ a b, ok a = true → ok b = true → f a = f b → a = b
  bd : ∀ q, ok q = true → (-20 ≤ q.1 ∧ q.1 ≤ 20) ∧ (-20 ≤ q.2 ∧ q.2 ≤ 20)
section
variable {nb : Int × Int → List (Int × Int)} {ok : Int × Int → Bool} {N L : Nat} {a : Int × Int}
theorem OkB.len (h : OkB ok N) {st : Int × Int → Prop} {s : BS (Int × Int)} {i : Nat} {S : Int × Int → Prop} (I : BInv nb ok st s i S) : s.Q.length ≤ N := by
  obtain ⟨f, h1, h2⟩ := h.pos
  have := nodup_len N (s.Q.map f) ?_ ?_
  · simpa using this
  · rw [List.Nodup, List.pairwise_map]
    refine List.Pairwise.imp_of_mem ?_ I.nodup
    intro x y hx hy hne he
    exact hne (h2 x y (I.good x hx) (I.good y hy) he)
  · intro x hx
    obtain ⟨q, hq, rfl⟩ := List.mem_map.1 hx
    exact h1 q (I.good q hq)
theorem OkB.pos_ (h : OkB ok N) (ha : ok a = true) : 0 < N := by
  obtain ⟨f, h1, _⟩ := h.pos
  have := h1 a ha
  omega

def rch0 (a : Int × Int) : BS (Int × Int) := ⟨[a], fun x => if x = a then some 0 else none⟩
def rchS (nb : Int × Int → List (Int × Int)) (ok : Int × Int → Bool) (a : Int × Int) (i : Nat) : BS (Int × Int) := (rch0 a).after nb ok i
abbrev RInv (nb : Int × Int → List (Int × Int)) (ok : Int × Int → Bool) (a : Int × Int) (s : BS (Int × Int)) (i : Nat) : Prop := BInv nb ok (fun x => x = a) s i (fun _ => False)
theorem rchS_zero (ha : ok a = true) : RInv nb ok a (rchS nb ok a 0) 0 := BInv.one ha
theorem rchS_succ {i : Nat} (h : RInv nb ok a (rchS nb ok a i) i) (hi : i < (rchS nb ok a i).Q.length) : RInv nb ok a (rchS nb ok a (i + 1)) (i + 1) := BInv.after h hi
theorem rchS_all (ha : ok a = true) : ∀ i, (∀ j, j < i → j < (rchS nb ok a j).Q.length) → RInv nb ok a (rchS nb ok a i) i := by
  intro i
  induction i with
  | zero => intro _; exact rchS_zero ha
  | succ i ih => intro h; exact rchS_succ (ih (fun j hj => h j (by omega))) (h i (by omega))
/-- A round of the search, in the words of its walk. -/
def RchR (nb : Int × Int → List (Int × Int)) (ok : Int × Int → Bool) (N L : Nat) (a : Int × Int) (i : Nat) : Prop :=
  ∃ (p : Int × Int) (d : Nat) (T : Nat → BS (Int × Int)), ok p = true ∧ (rchS nb ok a i).Q.drop i = p :: (rchS nb ok a i).Q.drop (i + 1) ∧ T 0 = rchS nb ok a i ∧
    (∀ j, j < L → T (j + 1) = (T j).see ok (d + 1) ((nb p).getD j (0, 0))) ∧
    (∀ j, j ≤ L → i < (T j).Q.length ∧ (T j).Q.length ≤ N ∧ (T j).Q.drop i = p :: (T j).Q.drop (i + 1)) ∧
    T L = rchS nb ok a (i + 1) ∧ RInv nb ok a (rchS nb ok a (i + 1)) (i + 1)
theorem rchR_of (hB : OkB ok N) (hL : ∀ p, (nb p).length = L) {i : Nat} (h : RInv nb ok a (rchS nb ok a i) i) (hi : i < (rchS nb ok a i).Q.length) : RchR nb ok N L a i := by
  obtain ⟨d, hd, hdl⟩ := h.dist i hi
  have hgood := h.good _ (List.getElem_mem hi)
  obtain ⟨p, hp⟩ : ∃ p, (rchS nb ok a i).Q[i] = p := ⟨_, rfl⟩
  have S := h.sees hi hd (nb (rchS nb ok a i).Q[i]) (fun _ h => h)
  rw [hp] at S hgood
  have hlen := hL p
  refine ⟨p, d, fun j => (rchS nb ok a i).sees ok (d + 1) ((nb p).take j), hgood, ?_, rfl, ?_, ?_, ?_, rchS_succ h hi⟩
  · rw [← hp]; exact List.drop_eq_getElem_cons hi
  · intro j hj
    have := BS.sees_succ ok (d + 1) (rchS nb ok a i) (nb p) j (by omega)
    simp only at this ⊢
    rw [this, List.getD_eq_getElem?_getD, List.getElem?_eq_getElem (by omega), Option.getD_some]
  · intro j hj
    obtain ⟨s1, s2, s3, s4⟩ := S j (by omega)
    refine ⟨s2, hB.len s1, ?_⟩
    have e := List.drop_eq_getElem_cons s2
    rw [s3] at e
    exact e
  · have := BS.after_succ (nb := nb) (ok := ok) (s := rch0 a) hi hd
    simp only
    rw [List.take_of_length_le (by omega), ← hp]
    exact this.symm
/-- All that is reached. -/
def rchF (nb : Int × Int → List (Int × Int)) (ok : Int × Int → Bool) (N : Nat) (a : Int × Int) : Int × Int → Option Nat := (rchS nb ok a N).f
theorem rchS_end (hB : OkB ok N) {i : Nat} (h : RInv nb ok a (rchS nb ok a i) i) (hi : ¬ i < (rchS nb ok a i).Q.length) : (rchS nb ok a i).f = rchF nb ok N a ∧ RInv nb ok a (rchS nb ok a N) (rchS nb ok a N).Q.length := by
  have hl := hB.len h
  have he := h.le
  have e : i = (rchS nb ok a i).Q.length := by omega
  have e2 := BS.after_end (nb := nb) (ok := ok) (s := rch0 a) (i := i) (by show (rchS nb ok a i).Q.length ≤ i; omega) N (by omega)
  have e3 : rchS nb ok a N = rchS nb ok a i := e2
  unfold rchF
  rw [e3]
  refine ⟨rfl, ?_⟩
  rw [← e]
  exact h
/-- The search comes to its end. -/
theorem rch_last (hB : OkB ok N) (ha : ok a = true) : RInv nb ok a (rchS nb ok a N) (rchS nb ok a N).Q.length := by
  have key : ∀ i, (∀ j, j < i → j < (rchS nb ok a j).Q.length) ∨ ∃ j, j < i ∧ ¬ j < (rchS nb ok a j).Q.length ∧ RInv nb ok a (rchS nb ok a j) j := by
    intro i
    induction i with
    | zero => exact .inl (fun j h => absurd h (Nat.not_lt_zero _))
    | succ i ih =>
      rcases ih with h | ⟨j, h1, h2, h3⟩
      · have hi := rchS_all (nb := nb) ha i h
        by_cases e : i < (rchS nb ok a i).Q.length
        · refine .inl (fun j hj => ?_)
          by_cases ej : j = i
          · subst ej; exact e
          · exact h j (by omega)
        · exact .inr ⟨i, by omega, e, hi⟩
      · exact .inr ⟨j, by omega, h2, h3⟩
  rcases key (N + 1) with h | ⟨j, h1, h2, h3⟩
  · have h4 := rchS_all (nb := nb) ha N (fun j hj => h j (by omega))
    have h5 := h N (by omega)
    have h6 := hB.len h4
    omega
  · exact (rchS_end hB h3 h2).2
/-- Whether a place is reached. -/
def rchB (nb : Int × Int → List (Int × Int)) (ok : Int × Int → Bool) (N : Nat) (a q : Int × Int) : Bool := (rchF nb ok N a q).isSome
/-- What is reached, said without a search. -/
inductive Rch (nb : Int × Int → List (Int × Int)) (ok : Int × Int → Bool) (a : Int × Int) : Int × Int → Prop
  | start : ok a = true → Rch nb ok a a
  | step (p q : Int × Int) : Rch nb ok a p → q ∈ nb p → ok q = true → Rch nb ok a q
theorem rchB_iff (hB : OkB ok N) (ha : ok a = true) {q : Int × Int} : rchB nb ok N a q = true ↔ Rch nb ok a q := by
  have I := rch_last (nb := nb) hB ha
  constructor
  · intro h
    obtain ⟨d, hd⟩ := Option.isSome_iff_exists.1 h
    have key : ∀ d q, rchF nb ok N a q = some d → Rch nb ok a q := by
      intro d
      induction d with
      | zero =>
        intro q hq
        rcases I.pred q 0 hq with ⟨_, rfl⟩ | ⟨p, e, _, h2, _⟩
        · exact .start ha
        · omega
      | succ d ih =>
        intro q hq
        rcases I.pred q _ hq with ⟨h1, _⟩ | ⟨p, e, h1, h2, h3⟩
        · omega
        · obtain rfl : e = d := by omega
          exact .step p q (ih p h1) h3 (I.good q ((I.mem q).1 (by rw [show (rchS nb ok a N).f q = some (e + 1) from hq]; rfl)))
    exact key d q hd
  · intro h
    induction h with
    | start _ =>
      have := I.from_ a rfl ha
      rw [rchB, rchF, this]; rfl
    | step p q _ hq hok ih =>
      obtain ⟨d, hd⟩ := Option.isSome_iff_exists.1 ih
      obtain ⟨e, he, _⟩ := I.closed hd hq hok
      rw [rchB, rchF, he]; rfl
theorem rchB_good (hB : OkB ok N) (ha : ok a = true) {q : Int × Int} (h : rchB nb ok N a q = true) : ok q = true := by
  cases (rchB_iff hB ha).1 h with
  | start _ => exact ha
  | step p _ _ _ h2 => exact h2
end

/-- A place is given its label, and all that is reached from it. -/
def labStep (R : Int × Int → Int × Int → Bool) (st : (Int × Int → Nat) × Nat) (s : Int × Int) : (Int × Int → Nat) × Nat :=
  if 0 < st.1 s then st else (fun q => if R s q then st.2 + 1 else st.1 q, st.2 + 1)
def labL (R : Int × Int → Int × Int → Bool) (l : List (Int × Int)) : (Int × Int → Nat) × Nat := l.foldl (labStep R) (fun _ => 0, 0)
theorem labL_succ (R : Int × Int → Int × Int → Bool) (l : List (Int × Int)) (k : Nat) (hk : k < l.length) : labL R (l.take (k + 1)) = labStep R (labL R (l.take k)) l[k] := by
  unfold labL
  rw [List.take_succ_eq_append_getElem hk, List.foldl_append]
  rfl
theorem labL_le (R : Int × Int → Int × Int → Bool) (l : List (Int × Int)) : ∀ k, k ≤ l.length → (labL R (l.take k)).2 ≤ k ∧ ∀ q, (labL R (l.take k)).1 q ≤ k := by
  intro k
  induction k with
  | zero => intro _; simp [labL]
  | succ k ih =>
    intro hk
    obtain ⟨h1, h2⟩ := ih (by omega)
    rw [labL_succ R l k (by omega), labStep]
    split
    · exact ⟨by omega, fun q => by have := h2 q; omega⟩
    · refine ⟨by simp only; omega, fun q => ?_⟩
      simp only
      split
      · omega
      · have := h2 q; omega
end Go.Proofs.Ytajepoopicoodaa
