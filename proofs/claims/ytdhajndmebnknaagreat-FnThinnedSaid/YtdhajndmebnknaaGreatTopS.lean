/- Parts of a picture, and how they lie in one another: the plain part. The code of a tree of parts: what it is, and how a visit of the parts finds it. Plain. The visit of the parts of a picture in numbers: what its walks keep. Plain. -/
import Derived.Test.YtdhajndmebnknaaGreatRch
namespace Go.Proofs.YtdhajndmebnknaaGreat
open Go.RowKit

abbrev Cell := Int × Int
def A4 (p q : Cell) : Prop := (q.1 = p.1 ∧ (q.2 = p.2 - 1 ∨ q.2 = p.2 + 1)) ∨ (q.2 = p.2 ∧ (q.1 = p.1 - 1 ∨ q.1 = p.1 + 1))
def A8 (p q : Cell) : Prop := A4 p q ∨ ((q.1 = p.1 - 1 ∨ q.1 = p.1 + 1) ∧ (q.2 = p.2 - 1 ∨ q.2 = p.2 + 1))
theorem A4.symm {p q : Cell} (h : A4 p q) : A4 q p := by unfold A4 at *; omega
theorem A8.symm {p q : Cell} (h : A8 p q) : A8 q p := by unfold A8 A4 at *; omega
/-- A picture: how many columns and rows, and which pixels are black. -/
structure Pc where
  W : Nat
  H : Nat
  col : Cell → Bool
section
variable (P : Pc)
def Pc.has (p : Cell) : Prop := (0 ≤ p.1 ∧ p.1 < P.W) ∧ 0 ≤ p.2 ∧ p.2 < P.H
/-- Next to one another and of one colour: black ones in all eight directions. -/
def Pc.nx (p q : Cell) : Prop := P.has q ∧ P.col q = P.col p ∧ (A4 p q ∨ (P.col p = true ∧ A8 p q))
/-- In one part. -/
inductive Pc.Same (a : Cell) : Cell → Prop
  | start : P.has a → Pc.Same a a
  | step (p q : Cell) : Pc.Same a p → P.nx p q → Pc.Same a q
end
section
variable {P : Pc} {a b p q u v : Cell}
theorem Pc.Same.hasL (h : P.Same a q) : P.has a := by
  induction h with
  | start h => exact h
  | step p q _ _ ih => exact ih
theorem Pc.Same.hasR (h : P.Same a q) : P.has q := by
  cases h with
  | start h => exact h
  | step p _ _ h => exact h.1
theorem Pc.Same.col (h : P.Same a q) : P.col q = P.col a := by
  induction h with
  | start h => rfl
  | step p q _ h ih => rw [h.2.1, ih]
theorem Pc.Same.trans (h : P.Same a p) (k : P.Same p q) : P.Same a q := by
  induction k with
  | start _ => exact h
  | step u v _ hn ih => exact .step u v ih hn
theorem Pc.Same.one (h : P.has p) (k : P.nx p q) : P.Same p q := .step p q (.start h) k
theorem Pc.nx.symm (h : P.has p) (k : P.nx p q) : P.nx q p := by
  refine ⟨h, k.2.1.symm, ?_⟩
  rcases k.2.2 with e | ⟨e1, e2⟩
  · exact .inl e.symm
  · exact .inr ⟨by rw [k.2.1, e1], e2.symm⟩
theorem Pc.Same.symm (h : P.Same a q) : P.Same q a := by
  induction h with
  | start h => exact .start h
  | step p q hp hn ih => exact (Pc.Same.one hn.1 (hn.symm hp.hasR)).trans ih
theorem same4 (hp : P.has p) (hq : P.has q) (h : A4 p q) (hc : P.col q = P.col p) : P.Same p q := .one hp ⟨hq, hc, .inl h⟩
theorem same8 (hp : P.has p) (hq : P.has q) (h : A8 p q) (hc : P.col p = true) (hd : P.col q = true) : P.Same p q := .one hp ⟨hq, by rw [hc, hd], .inr ⟨hc, h⟩⟩
/-- An edge between two parts. -/
def Pc.Ed (P : Pc) (a b u v : Cell) : Prop := (P.Same a u ∧ P.Same b v) ∨ (P.Same b u ∧ P.Same a v)
open Classical in
noncomputable def Pc.ed (P : Pc) (a b u v : Cell) : Bool := decide (P.Ed a b u v)
theorem ed_iff : P.ed a b u v = true ↔ P.Ed a b u v := by
  unfold Pc.ed
  exact @decide_eq_true_iff _ (Classical.propDecidable _)
theorem ed_no (h : ¬ P.Ed a b u v) : P.ed a b u v = false := by
  cases e : P.ed a b u v with
  | false => rfl
  | true => exact absurd (ed_iff.1 e) h
theorem ed_symm : P.ed a b u v = P.ed a b v u := by
  rw [Bool.eq_iff_iff, ed_iff, ed_iff]
  exact ⟨fun h => h.elim (fun h => .inr ⟨h.2, h.1⟩) (fun h => .inl ⟨h.2, h.1⟩), fun h => h.elim (fun h => .inr ⟨h.2, h.1⟩) (fun h => .inl ⟨h.2, h.1⟩)⟩
theorem ed_left {u' : Cell} (h : P.Same u u') : P.ed a b u v = P.ed a b u' v := by
  rw [Bool.eq_iff_iff, ed_iff, ed_iff]
  exact ⟨fun k => k.elim (fun k => .inl ⟨k.1.trans h, k.2⟩) (fun k => .inr ⟨k.1.trans h, k.2⟩), fun k => k.elim (fun k => .inl ⟨k.1.trans h.symm, k.2⟩) (fun k => .inr ⟨k.1.trans h.symm, k.2⟩)⟩
theorem ed_right {v' : Cell} (h : P.Same v v') : P.ed a b u v = P.ed a b u v' := by rw [ed_symm, ed_left h, ed_symm]
theorem ed_self (hab : ¬ P.Same a b) (h : P.Same u v) : P.ed a b u v = false := by
  refine ed_no ?_
  rintro (⟨h1, h2⟩ | ⟨h1, h2⟩)
  · exact hab (h1.trans (h.trans h2.symm))
  · exact hab (h2.trans (h.symm.trans h1.symm))
/-- Around a square of four pixels the edges cancel. -/
theorem square (hab : ¬ P.Same a b) {x y : Int} (hA : P.has (x, y)) (hB : P.has (x + 1, y)) (hC : P.has (x + 1, y + 1)) (hD : P.has (x, y + 1)) :
    (P.ed a b (x, y) (x + 1, y) ^^ P.ed a b (x + 1, y) (x + 1, y + 1)) = (P.ed a b (x, y) (x, y + 1) ^^ P.ed a b (x, y + 1) (x + 1, y + 1)) := by
  have aAB : A4 (x, y) (x + 1, y) := .inr ⟨rfl, .inr rfl⟩
  have aBC : A4 (x + 1, y) (x + 1, y + 1) := .inl ⟨rfl, .inr rfl⟩
  have aAD : A4 (x, y) (x, y + 1) := .inl ⟨rfl, .inr rfl⟩
  have aDC : A4 (x, y + 1) (x + 1, y + 1) := .inr ⟨rfl, .inr rfl⟩
  have aAC : A8 (x, y) (x + 1, y + 1) := .inr ⟨.inr rfl, .inr rfl⟩
  have aBD : A8 (x + 1, y) (x, y + 1) := .inr ⟨.inl (by simp only; omega), .inr rfl⟩
  by_cases sAC : P.Same (x, y) (x + 1, y + 1)
  · rw [ed_left sAC, ed_left (v := (x, y + 1)) sAC, ed_symm (u := (x + 1, y)), ed_symm (u := (x, y + 1))]
    simp
  by_cases sBD : P.Same (x + 1, y) (x, y + 1)
  · rw [ed_right (u := (x, y)) sBD, ed_left (v := (x + 1, y + 1)) sBD]
  by_cases cAC : P.col (x, y) = P.col (x + 1, y + 1)
  · exfalso
    have cA : P.col (x, y) = false := by
      cases h : P.col (x, y) with
      | false => rfl
      | true => exact absurd (same8 hA hC aAC h (by rw [← cAC, h])) sAC
    have cB : P.col (x + 1, y) = true := by
      cases h : P.col (x + 1, y) with
      | true => rfl
      | false => exact absurd ((same4 hA hB aAB (by rw [h, cA])).trans (same4 hB hC aBC (by rw [h, ← cAC, cA]))) sAC
    have cD : P.col (x, y + 1) = true := by
      cases h : P.col (x, y + 1) with
      | true => rfl
      | false => exact absurd ((same4 hA hD aAD (by rw [h, cA])).trans (same4 hD hC aDC (by rw [h, ← cAC, cA]))) sAC
    exact sBD (same8 hB hD aBD cB cD)
  · by_cases cAB : P.col (x, y) = P.col (x + 1, y)
    · have s1 := same4 hA hB aAB cAB.symm
      have cDC : P.col (x, y + 1) = P.col (x + 1, y + 1) := by
        cases h : P.col (x, y + 1) <;> cases h2 : P.col (x + 1, y + 1) <;> try rfl
        · have h3 : P.col (x, y) = false := by cases h3 : P.col (x, y) with
            | false => rfl
            | true => exact absurd (by rw [h3, h2]) cAC
          exact absurd ((s1.symm).trans (same4 hA hD aAD (by rw [h, h3]))) sBD
        · have h3 : P.col (x, y) = true := by cases h3 : P.col (x, y) with
            | true => rfl
            | false => exact absurd (by rw [h3, h2]) cAC
          exact absurd ((s1.symm).trans (same4 hA hD aAD (by rw [h, h3]))) sBD
      have s2 := same4 hD hC aDC cDC.symm
      rw [ed_self hab s1, ed_self hab s2, ed_left s1.symm, ed_right s2.symm]
      simp
    · have cAD : P.col (x, y) = P.col (x, y + 1) := by
        cases h : P.col (x, y) <;> cases h2 : P.col (x, y + 1) <;> try rfl
        · have hb : P.col (x + 1, y) = true := by cases hb : P.col (x + 1, y) with
            | true => rfl
            | false => exact absurd (by rw [h, hb]) cAB
          exact absurd (same8 hB hD aBD hb h2) sBD
        · have hb : P.col (x + 1, y) = false := by cases hb : P.col (x + 1, y) with
            | false => rfl
            | true => exact absurd (by rw [h, hb]) cAB
          have hc : P.col (x + 1, y + 1) = false := by cases hc : P.col (x + 1, y + 1) with
            | false => rfl
            | true => exact absurd (by rw [h, hc]) cAC
          exact absurd ((same4 hB hC aBC (by rw [hb, hc])).trans (same4 hC hD aDC.symm (by rw [h2, hc]))) sBD
      have s1 := same4 hA hD aAD cAD.symm
      have cBC : P.col (x + 1, y) = P.col (x + 1, y + 1) := by
        cases h : P.col (x, y) <;> cases h2 : P.col (x + 1, y) <;> cases h3 : P.col (x + 1, y + 1) <;> simp_all
      have s2 := same4 hB hC aBC cBC.symm
      rw [ed_self hab s1, ed_self hab s2, ed_left s1, ed_right s2]
      simp
/-- The potential of an edge: the sum along the first row and down a column. -/
noncomputable def Pc.row (P : Pc) (a b : Cell) : Nat → Bool
  | 0 => false
  | x + 1 => P.row a b x ^^ P.ed a b ((x : Int), 0) ((x : Int) + 1, 0)
noncomputable def Pc.pot (P : Pc) (a b : Cell) (x : Nat) : Nat → Bool
  | 0 => P.row a b x
  | y + 1 => P.pot a b x y ^^ P.ed a b ((x : Int), (y : Int)) ((x : Int), (y : Int) + 1)
theorem pot_right (hab : ¬ P.Same a b) {x : Nat} (hx : x + 1 < P.W) : ∀ y : Nat, y < P.H → P.pot a b (x + 1) y = (P.pot a b x y ^^ P.ed a b ((x : Int), (y : Int)) ((x : Int) + 1, (y : Int))) := by
  intro y
  induction y with
  | zero => intro _; rfl
  | succ y ih =>
    intro hy
    have e := ih (by omega)
    have sq := square (P := P) hab (x := (x : Int)) (y := (y : Int)) ⟨⟨by omega, by simp only; omega⟩, by omega, by simp only; omega⟩ ⟨⟨by simp only; omega, by simp only; omega⟩, by omega, by simp only; omega⟩
      ⟨⟨by simp only; omega, by simp only; omega⟩, by simp only; omega, by simp only; omega⟩ ⟨⟨by omega, by simp only; omega⟩, by simp only; omega, by simp only; omega⟩
    rw [Pc.pot, Pc.pot, e]
    have c1 : ((x + 1 : Nat) : Int) = (x : Int) + 1 := by omega
    have c2 : ((y + 1 : Nat) : Int) = (y : Int) + 1 := by omega
    rw [c1, c2]
    rw [Bool.xor_assoc, Bool.xor_assoc, sq]
noncomputable def Pc.g (P : Pc) (a b p : Cell) : Bool := P.pot a b p.1.toNat p.2.toNat
theorem g_edge (hab : ¬ P.Same a b) (hp : P.has p) (hq : P.has q) (h : A4 p q) : P.g a b q = (P.g a b p ^^ P.ed a b p q) := by
  obtain ⟨px, py⟩ := p
  obtain ⟨qx, qy⟩ := q
  obtain ⟨⟨p1, p2⟩, p3, p4⟩ := hp
  obtain ⟨⟨q1, q2⟩, q3, q4⟩ := hq
  simp only at p1 p2 p3 p4 q1 q2 q3 q4
  obtain ⟨x, rfl⟩ := Int.eq_ofNat_of_zero_le p1
  obtain ⟨y, rfl⟩ := Int.eq_ofNat_of_zero_le p3
  unfold A4 at h
  simp only at h
  rcases h with ⟨rfl, rfl | rfl⟩ | ⟨rfl, rfl | rfl⟩
  · obtain ⟨k, rfl⟩ : ∃ k, y = k + 1 := ⟨y - 1, by omega⟩
    have e1 : ((k + 1 : Nat) : Int) - 1 = (k : Int) := by omega
    have e2 : ((k + 1 : Nat) : Int) = (k : Int) + 1 := by omega
    rw [e1]
    simp only [Pc.g, Int.toNat_natCast]
    rw [Pc.pot, e2, ed_symm (u := ((x : Int), (k : Int) + 1))]
    simp
  · have e1 : ((y : Int) + 1).toNat = y + 1 := by omega
    simp only [Pc.g, Int.toNat_natCast, e1]
    rfl
  · obtain ⟨k, rfl⟩ : ∃ k, x = k + 1 := ⟨x - 1, by omega⟩
    have e1 : ((k + 1 : Nat) : Int) - 1 = (k : Int) := by omega
    have e2 : ((k + 1 : Nat) : Int) = (k : Int) + 1 := by omega
    rw [e1]
    simp only [Pc.g, Int.toNat_natCast]
    rw [pot_right hab (by omega) y (by omega), e2, ed_symm (u := ((k : Int) + 1, (y : Int)))]
    simp
  · have e1 : ((x : Int) + 1).toNat = x + 1 := by omega
    simp only [Pc.g, Int.toNat_natCast, e1]
    exact pot_right hab (by omega) y (by omega)
theorem g_nx (hab : ¬ P.Same a b) (hp : P.has p) (k : P.nx p q) : P.g a b p = P.g a b q := by
  have hs := Pc.Same.one hp k
  have four : A4 p q → P.g a b p = P.g a b q := fun h => by
    rw [g_edge hab hp k.1 h, ed_self hab hs]; simp
  rcases k.2.2 with h | ⟨_, h | ⟨h1, h2⟩⟩
  · exact four h
  · exact four h
  · have hr : P.has (q.1, p.2) := ⟨k.1.1, hp.2⟩
    have r1 : A4 p (q.1, p.2) := .inr ⟨rfl, h1⟩
    have r2 : A4 (q.1, p.2) q := .inl ⟨rfl, h2⟩
    rw [g_edge hab hr k.1 r2, g_edge hab hp hr r1, ed_left hs, ed_symm (u := q)]
    simp
theorem g_same (hab : ¬ P.Same a b) (h : P.Same p q) : P.g a b p = P.g a b q := by
  induction h with
  | start _ => rfl
  | step u v hu hn ih => rw [ih, g_nx hab hu.hasR hn]
/-- Two parts of two colours that are next to one another. -/
def Pc.Adj (P : Pc) (a b : Cell) : Prop := P.col a ≠ P.col b ∧ ∃ s t, P.Same a s ∧ P.Same b t ∧ A4 s t
theorem Pc.Adj.not (h : P.Adj a b) : ¬ P.Same a b := fun k => h.1 k.col.symm
theorem Pc.Adj.symm (h : P.Adj a b) : P.Adj b a := by
  obtain ⟨h1, s, t, h2, h3, h4⟩ := h
  exact ⟨fun e => h1 e.symm, t, s, h3, h2, h4.symm⟩
/-- Each edge of the parts is a bridge. -/
theorem bridge (h : P.Adj a b) : ∃ g : Cell → Bool, (∀ p q, P.Same p q → g p = g q) ∧ g a ≠ g b ∧ ∀ p q, P.has p → P.has q → A4 p q → ¬ P.Ed a b p q → g p = g q := by
  refine ⟨P.g a b, fun p q k => g_same h.not k, ?_, fun p q hp hq k hn => ?_⟩
  · have hn := h.not
    obtain ⟨_, s, t, hs, ht, hst⟩ := h
    rw [g_same hn hs, g_same hn ht, g_edge hn hs.hasR ht.hasR hst]
    have : P.ed a b s t = true := ed_iff.2 (.inl ⟨hs, ht⟩)
    rw [this]
    cases P.g a b s <;> simp
  · rw [g_edge h.not hp hq k]
    have : P.ed a b p q = false := ed_no hn
    rw [this]; simp
def Pc.SameO (P : Pc) : Option Cell → Cell → Prop
  | none, _ => False
  | some a, y => P.Same a y
/-- What is reached from a place outside a part. -/
inductive Pc.Sd (P : Pc) (o : Option Cell) (b : Cell) : Cell → Prop
  | start : P.has b → ¬ P.SameO o b → Pc.Sd P o b b
  | same (x y : Cell) : Pc.Sd P o b x → P.Same x y → Pc.Sd P o b y
  | adj (x y : Cell) : Pc.Sd P o b x → P.has y → A4 x y → ¬ P.SameO o y → Pc.Sd P o b y
variable {o : Option Cell} {x y : Cell}
theorem SameO_same (h : P.SameO o x) (k : P.Same x y) : P.SameO o y := by
  cases o with
  | none => exact h
  | some a => exact Pc.Same.trans h k
theorem Pc.Sd.no (h : P.Sd o b x) : ¬ P.SameO o x := by
  induction h with
  | start _ h => exact h
  | same x y _ k ih => exact fun e => ih (SameO_same e k.symm)
  | adj x y _ _ _ h _ => exact h
theorem Pc.Sd.has' (h : P.Sd o b x) : P.has x := by
  induction h with
  | start h _ => exact h
  | same x y _ k ih => exact k.hasR
  | adj x y _ h _ _ _ => exact h
theorem Pc.Sd.trans (h : P.Sd o a x) (k : P.Sd o x y) : P.Sd o a y := by
  induction k with
  | start _ _ => exact h
  | same u v _ k ih => exact .same u v ih k
  | adj u v _ h1 h2 h3 ih => exact .adj u v ih h1 h2 h3
theorem Pc.Sd.symm (h : P.Sd o b x) : P.Sd o x b := by
  induction h with
  | start h1 h2 => exact .start h1 h2
  | same u v hu k ih =>
    exact (Pc.Sd.same v u (.start k.hasR (fun e => hu.no (SameO_same e k.symm))) k.symm).trans ih
  | adj u v hu h1 h2 h3 ih =>
    exact (Pc.Sd.adj v u (.start h1 h3) hu.has' h2.symm hu.no).trans ih
theorem sd_pot {g : Cell → Bool} {c d : Cell} (g1 : ∀ p q, P.Same p q → g p = g q) (g3 : ∀ p q, P.has p → P.has q → A4 p q → ¬ P.Ed c d p q → g p = g q) {b x : Cell} (h : P.Sd (some c) b x) : g x = g b := by
  induction h with
  | start _ _ => rfl
  | same u v _ k ih => rw [← g1 u v k, ih]
  | adj u v hu h1 h2 h3 ih =>
    rw [← g3 u v hu.has' h1 h2 ?_, ih]
    rintro (⟨k, _⟩ | ⟨_, k⟩)
    · exact hu.no k
    · exact h3 k
/-- Of what is reached behind a part, only that part is next to where one came from. -/
theorem sd_near (h : P.Adj a b) (hx : P.Sd (some a) b x) {s : Cell} (hs : P.Same a s) (hsx : A4 s x) : P.Same b x := by
  by_cases hb : P.Same b x
  · exact hb
  · exfalso
    obtain ⟨g, g1, g2, g3⟩ := bridge h
    have e1 := sd_pot g1 g3 hx
    have e2 := g3 s x hs.hasR hx.has' hsx (by
      rintro (⟨_, k⟩ | ⟨k, _⟩)
      · exact hb k
      · exact h.not (hs.trans k.symm))
    exact g2 ((g1 a s hs).trans (e2.trans e1))
/-- What lies behind a further part lies behind the part. -/
theorem sd_sub (hq : P.Adj b q) (hb : P.has b) (ho : ¬ P.SameO o b) (hoq : ¬ P.SameO o q) (hadj : ∀ a, o = some a → P.Adj a b) (hx : P.Sd (some b) q x) : P.Sd o b x := by
  have hbq : P.Sd o b q := by
    obtain ⟨_, s, t, hs, ht, hst⟩ := hq
    have h1 : P.Sd o b s := .same b s (.start hb ho) hs
    have h2 : P.Sd o b t := .adj s t h1 ht.hasR hst (fun e => hoq (SameO_same e ht.symm))
    exact .same t q h2 ht.symm
  refine hbq.trans ?_
  cases o with
  | none =>
    induction hx with
    | start h1 _ => exact .start h1 (fun e => e)
    | same u v _ k ih => exact .same u v ih k
    | adj u v _ h1 h2 _ ih => exact .adj u v ih h1 h2 (fun e => e)
  | some a =>
    have hab := hadj a rfl
    obtain ⟨g, g1, g2, g3⟩ := bridge hq
    have hnab := hab.not
    have ga : g a = g b := by
      obtain ⟨_, s, t, hs, ht, hst⟩ := hab
      rw [g1 a s hs, g1 b t ht]
      refine g3 s t hs.hasR ht.hasR hst ?_
      rintro (⟨k, _⟩ | ⟨k, _⟩)
      · exact hnab (hs.trans k.symm)
      · exact hoq (hs.trans k.symm)
    induction hx with
    | start h1 _ => exact .start h1 hoq
    | same u v _ k ih => exact .same u v ih k
    | adj u v hu h1 h2 h3 ih =>
      refine .adj u v ih h1 h2 (fun e => ?_)
      have e1 := sd_pot g1 g3 (Pc.Sd.adj u v hu h1 h2 h3)
      exact g2 (ga.symm.trans ((g1 a v e).trans e1))
/-- What lies behind two parts of one is nothing, unless they are the same. -/
theorem sd_meet (he : P.Adj a b) (hq : P.Adj a q) (h1 : P.Sd (some a) b x) (h2 : P.Sd (some a) q x) : P.Same b q := by
  have h3 : P.Sd (some a) b q := h1.trans h2.symm
  obtain ⟨_, s, t, hs, ht, hst⟩ := hq
  have h4 : P.Sd (some a) b t := .same q t h3 ht
  exact (sd_near he h4 hs hst).trans ht.symm
end
end Go.Proofs.YtdhajndmebnknaaGreat

namespace Go.Proofs.YtdhajndmebnknaaGreat
open Go.RowKit

abbrev Txt := List UInt8
def srtC (cs : List Txt) : List Txt := cs.mergeSort fun x y => decide (x ≤ y)
def wrapC (cs : List Txt) : Txt := 40 :: ((srtC cs).flatten ++ [41])
def deepC : List Nat → Nat
  | [] => 0
  | d :: l => max (d + 1) (deepC l)
theorem deepC_snoc (l : List Nat) (d : Nat) : deepC (l ++ [d]) = max (deepC l) (d + 1) := by
  induction l with
  | nil => simp [deepC]
  | cons a l ih => rw [List.cons_append, deepC, ih, deepC]; omega
theorem deepC_perm {l m : List Nat} (h : l.Perm m) : deepC l = deepC m := by
  induction h with
  | nil => rfl
  | cons x _ ih => rw [deepC, deepC, ih]
  | swap x y l => simp only [deepC]; omega
  | trans _ _ h1 h2 => rw [h1, h2]
theorem le_tot (a b : Txt) : (decide (a ≤ b) || decide (b ≤ a)) = true := by
  rcases List.le_total a b with h | h <;> simp [h]
theorem le_tr (a b c : Txt) (h1 : decide (a ≤ b) = true) (h2 : decide (b ≤ c) = true) : decide (a ≤ c) = true := by
  rw [decide_eq_true_iff] at *
  exact List.le_trans h1 h2
theorem sorted_eq : ∀ {l m : List Txt}, l.Perm m → l.Pairwise (fun x y => x ≤ y) → m.Pairwise (fun x y => x ≤ y) → l = m
  | [], m, h, _, _ => by rw [List.nil_perm.1 h]
  | a :: l, [], h, _, _ => absurd h.length_eq (by simp)
  | a :: l, b :: m, h, h1, h2 => by
    rw [List.pairwise_cons] at h1 h2
    have hab : a = b := by
      have e1 : a ∈ b :: m := h.subset (List.mem_cons_self ..)
      have e2 : b ∈ a :: l := h.symm.subset (List.mem_cons_self ..)
      rcases List.mem_cons.1 e1 with e | e
      · exact e
      · rcases List.mem_cons.1 e2 with f | f
        · exact f.symm
        · exact List.le_antisymm (h1.1 b f) (h2.1 a e)
    subst hab
    rw [sorted_eq (List.Perm.cons_inv h) h1.2 h2.2]
theorem srt_pair (cs : List Txt) : (srtC cs).Pairwise (fun x y => x ≤ y) := by
  have := List.pairwise_mergeSort le_tr le_tot cs
  exact this.imp (fun h => of_decide_eq_true h)
theorem srt_perm (cs : List Txt) : (srtC cs).Perm cs := List.mergeSort_perm _ _
theorem srt_eq {l m : List Txt} (h : l.Perm m) : srtC l = srtC m := sorted_eq ((srt_perm l).trans (h.trans (srt_perm m).symm)) (srt_pair l) (srt_pair m)
theorem wrapC_perm {l m : List Txt} (h : l.Perm m) : wrapC l = wrapC m := by rw [wrapC, srt_eq h, wrapC]
/-- A sorted list of the same texts. -/
theorem srt_of {l m : List Txt} (h : m.Perm l) (hs : m.Pairwise (fun x y => x ≤ y)) : srtC l = m := sorted_eq ((srt_perm l).trans h.symm) (srt_pair l) hs

abbrev Kid := Cell × Txt × Nat
section
variable (P : Pc)
/-- The parts that lie in a part, each by one of its pixels. -/
structure Pc.Kids (o : Option Cell) (a : Cell) (L : List Kid) : Prop where
  adj : ∀ e ∈ L, P.Adj a e.1 ∧ ¬ P.SameO o e.1 ∧ P.has e.1
  diff : L.Pairwise fun x y => ¬ P.Same x.1 y.1
  all : ∀ s q, P.Same a s → A4 s q → P.has q → P.col q ≠ P.col a → ¬ P.SameO o q → ∃ e ∈ L, P.Same e.1 q
/-- The code of a part, and how deep it goes, seen from where one came. -/
def Pc.Nd : Nat → Option Cell → Cell → Txt → Nat → Prop
  | 0, _, _, _, _ => False
  | n + 1, o, a, c, d => ∃ L : List Kid, P.Kids o a L ∧ (∀ e ∈ L, Pc.Nd n (some a) e.1 e.2.1 e.2.2) ∧ c = wrapC (L.map fun e => e.2.1) ∧ d = deepC (L.map fun e => e.2.2)
end
section
variable {P : Pc} {a b : Cell} {o : Option Cell}
theorem match_perm {γ : Type} (f : Kid → γ) : ∀ {L M : List Kid}, L.Pairwise (fun x y => ¬ P.Same x.1 y.1) → M.Pairwise (fun x y => ¬ P.Same x.1 y.1) → (∀ x ∈ L, ∃ y ∈ M, P.Same x.1 y.1) → (∀ y ∈ M, ∃ x ∈ L, P.Same x.1 y.1) →
    (∀ x ∈ L, ∀ y ∈ M, P.Same x.1 y.1 → f x = f y) → (L.map f).Perm (M.map f)
  | [], M, _, _, _, h2, _ => by
    cases M with
    | nil => exact List.Perm.refl _
    | cons y M => obtain ⟨x, hx, _⟩ := h2 y (List.mem_cons_self ..); simp at hx
  | x :: L, M, hL, hM, h1, h2, hf => by
    obtain ⟨y, hy, hxy⟩ := h1 x (List.mem_cons_self ..)
    obtain ⟨M1, M2, rfl⟩ := List.append_of_mem hy
    rw [List.pairwise_cons] at hL
    have hM2 : (y :: (M1 ++ M2)).Pairwise (fun x y => ¬ P.Same x.1 y.1) := by
      refine (List.Perm.pairwise_iff (fun {a b} h k => h k.symm) ?_).1 hM
      exact List.perm_middle
    rw [List.pairwise_cons] at hM2
    have hp := match_perm f hL.2 hM2.2 (fun x' hx' => by
      obtain ⟨y', hy', hs⟩ := h1 x' (List.mem_cons_of_mem _ hx')
      refine ⟨y', ?_, hs⟩
      rcases List.mem_append.1 hy' with h | h
      · exact List.mem_append.2 (.inl h)
      · rcases List.mem_cons.1 h with rfl | h
        · exact absurd (hxy.trans hs.symm) (hL.1 x' hx')
        · exact List.mem_append.2 (.inr h)) (fun y' hy' => by
      obtain ⟨x', hx', hs⟩ := h2 y' (by
        rcases List.mem_append.1 hy' with h | h
        · exact List.mem_append.2 (.inl h)
        · exact List.mem_append.2 (.inr (List.mem_cons_of_mem _ h)))
      rcases List.mem_cons.1 hx' with rfl | h
      · exact absurd (hxy.symm.trans hs) (hM2.1 y' hy')
      · exact ⟨x', h, hs⟩) (fun x' hx' y' hy' hs => hf x' (List.mem_cons_of_mem _ hx') y' (by
        rcases List.mem_append.1 hy' with h | h
        · exact List.mem_append.2 (.inl h)
        · exact List.mem_append.2 (.inr (List.mem_cons_of_mem _ h))) hs)
    have e := hf x (List.mem_cons_self ..) y (by simp) hxy
    rw [List.map_cons, e, List.map_append, List.map_cons]
    refine (List.Perm.cons _ hp).trans ?_
    rw [List.map_append]
    exact List.perm_middle.symm
/-- The code of a part is the part's alone. -/
theorem nd_same : ∀ (n m : Nat) (o o' : Option Cell) (a a' : Cell) (c c' : Txt) (d d' : Nat), P.Nd n o a c d → P.Nd m o' a' c' d' → P.Same a a' → (∀ x, P.SameO o x ↔ P.SameO o' x) → c = c' ∧ d = d' := by
  intro n
  induction n with
  | zero => intro m o o' a a' c c' d d' h; exact absurd h (fun h => h)
  | succ n ih =>
    intro m o o' a a' c c' d d' h h' ha ho
    cases m with
    | zero => exact absurd h' (fun h => h)
    | succ m =>
      obtain ⟨L, K, hL, rfl, rfl⟩ := h
      obtain ⟨M, K', hM, rfl, rfl⟩ := h'
      have f1 : ∀ x ∈ L, ∃ y ∈ M, P.Same x.1 y.1 := fun x hx => by
        obtain ⟨⟨hc, s, t, hs, ht, hst⟩, hn, _⟩ := K.adj x hx
        obtain ⟨y, hy, hyt⟩ := K'.all s t (ha.symm.trans hs) hst ht.hasR (by rw [ht.col, ha.col]; exact fun e => hc e.symm) (fun e => hn (SameO_same ((ho t).2 e) ht.symm))
        exact ⟨y, hy, ht.trans hyt.symm⟩
      have f2 : ∀ y ∈ M, ∃ x ∈ L, P.Same x.1 y.1 := fun y hy => by
        obtain ⟨⟨hc, s, t, hs, ht, hst⟩, hn, _⟩ := K'.adj y hy
        obtain ⟨x, hx, hxt⟩ := K.all s t (ha.trans hs) hst ht.hasR (by rw [ht.col, ← ha.col]; exact fun e => hc e.symm) (fun e => hn (SameO_same ((ho t).1 e) ht.symm))
        exact ⟨x, hx, hxt.trans ht.symm⟩
      have f3 : ∀ x ∈ L, ∀ y ∈ M, P.Same x.1 y.1 → (x.2.1, x.2.2) = (y.2.1, y.2.2) := fun x hx y hy hs => by
        obtain ⟨e1, e2⟩ := ih m (some a) (some a') x.1 y.1 _ _ _ _ (hL x hx) (hM y hy) hs (fun z => ⟨fun h => ha.symm.trans h, fun h => ha.trans h⟩)
        rw [e1, e2]
      have p := match_perm (P := P) (fun e : Kid => (e.2.1, e.2.2)) K.diff K'.diff f1 f2 f3
      constructor
      · refine wrapC_perm ?_
        have := p.map Prod.fst
        simpa [List.map_map, Function.comp_def] using this
      · refine deepC_perm ?_
        have := p.map Prod.snd
        simpa [List.map_map, Function.comp_def] using this
/-- What is known ahead of the visit of a part. -/
structure Pc.Vp (P : Pc) (o : Option Cell) (a : Cell) (seen : Cell → Prop) : Prop where
  own : ∀ x, P.Same a x → seen x
  up : ∀ x, P.SameO o x → seen x
  new : ∀ x, seen x → P.Sd o a x → P.Same a x
  whole : ∀ x y, seen x → P.Same x y → seen y
  has : P.has a
  no : ¬ P.SameO o a
  adj : ∀ p, o = some p → P.Adj p a
/-- What is known in the midst of it. -/
structure Pc.Vi (P : Pc) (o : Option Cell) (a : Cell) (s0 : Cell → Prop) (L : List Kid) (seen : Cell → Prop) : Prop where
  pre : P.Vp o a s0
  base : ∀ x, s0 x → seen x
  grow : ∀ x, seen x → s0 x ∨ ∃ e ∈ L, P.Sd (some a) e.1 x
  kids : ∀ e ∈ L, (P.Adj a e.1 ∧ ¬ P.SameO o e.1 ∧ P.has e.1) ∧ seen e.1
  diff : L.Pairwise fun x y => ¬ P.Same x.1 y.1
  whole : ∀ x y, seen x → P.Same x y → seen y
variable {s0 seen seen' : Cell → Prop} {L : List Kid} {s q : Cell}
theorem Pc.Vp.vi (h : P.Vp o a s0) : P.Vi o a s0 [] s0 :=
  ⟨h, fun _ h => h, fun _ h => .inl h, fun _ h => absurd h (by simp), List.Pairwise.nil, h.whole⟩
theorem adj_of (hs : P.Same a s) (hq : P.has q) (hsq : A4 s q) (hc : P.col q ≠ P.col a) : P.Adj a q := ⟨fun e => hc e.symm, s, q, hs, .start hq, hsq⟩
/-- A neighbour that has been seen belongs to a part that has been found. -/
theorem Pc.Vi.skip (h : P.Vi o a s0 L seen) (hs : P.Same a s) (hq : P.has q) (hsq : A4 s q) (hc : P.col q ≠ P.col a) (ho : ¬ P.SameO o q) (hseen : seen q) : ∃ e ∈ L, P.Same e.1 q := by
  rcases h.grow q hseen with h0 | ⟨e, he, hse⟩
  · exfalso
    have hsd : P.Sd o a q := .adj s q (.same a s (.start h.pre.has h.pre.no) hs) hq hsq ho
    exact hc (h.pre.new q h0 hsd).col
  · exact ⟨e, he, sd_near (h.kids e he).1.1 hse hs hsq⟩
/-- A neighbour that has not been seen is a new part's. -/
theorem Pc.Vi.take (h : P.Vi o a s0 L seen) (hs : P.Same a s) (hq : P.has q) (hsq : A4 s q) (hc : P.col q ≠ P.col a) (hn : ¬ seen q) :
    ¬ P.SameO o q ∧ P.Adj a q ∧ P.Vp (some a) q (fun x => seen x ∨ P.Same q x) := by
  have ho : ¬ P.SameO o q := fun e => hn (h.base _ (h.pre.up q e))
  have ha := adj_of hs hq hsq hc
  refine ⟨ho, ha, fun x hx => .inr hx, fun x hx => .inl (h.base _ (h.pre.own x hx)), fun x hx hsd => ?_, fun x y hx hxy => ?_, hq, ha.not, fun p hp => by cases hp; exact ha⟩
  · rcases hx with hx | hx
    · exfalso
      rcases h.grow x hx with h0 | ⟨e, he, hse⟩
      · have := h.pre.new x h0 (sd_sub ha h.pre.has h.pre.no ho h.pre.adj hsd)
        exact hsd.no this
      · have := sd_meet (h.kids e he).1.1 ha hse hsd
        exact hn (h.whole _ _ (h.kids e he).2 this)
    · exact hx
  · rcases hx with hx | hx
    · exact .inl (h.whole x y hx hxy)
    · exact .inr (hx.trans hxy)
/-- Behind a visit. -/
structure Pc.Vq (P : Pc) (o : Option Cell) (a : Cell) (s0 seen : Cell → Prop) : Prop where
  base : ∀ x, s0 x → seen x
  grow : ∀ x, seen x → s0 x ∨ P.Sd o a x
  whole : ∀ x y, seen x → P.Same x y → seen y
theorem Pc.Vi.back (h : P.Vi o a s0 L seen) (hs : P.Same a s) (hq : P.has q) (hsq : A4 s q) (hc : P.col q ≠ P.col a) (hn : ¬ seen q) {c : Txt} {d : Nat} (hv : P.Vq (some a) q (fun x => seen x ∨ P.Same q x) seen') :
    P.Vi o a s0 (L ++ [(q, c, d)]) seen' := by
  obtain ⟨ho, ha, _⟩ := h.take hs hq hsq hc hn
  have hqq : P.Sd (some a) q q := .start hq ha.not
  refine ⟨h.pre, fun x hx => hv.base x (.inl (h.base x hx)), fun x hx => ?_, fun e he => ?_, ?_, hv.whole⟩
  · rcases hv.grow x hx with (hx | hx) | hx
    · rcases h.grow x hx with h0 | ⟨e, he, hse⟩
      · exact .inl h0
      · exact .inr ⟨e, List.mem_append.2 (.inl he), hse⟩
    · exact .inr ⟨_, List.mem_append.2 (.inr (List.mem_singleton.2 rfl)), .same q x hqq hx⟩
    · exact .inr ⟨_, List.mem_append.2 (.inr (List.mem_singleton.2 rfl)), hx⟩
  · rcases List.mem_append.1 he with he | he
    · exact ⟨(h.kids e he).1, hv.base _ (.inl (h.kids e he).2)⟩
    · rw [List.mem_singleton.1 he]
      exact ⟨⟨ha, ho, hq⟩, hv.base q (.inr (.start hq))⟩
  · rw [List.pairwise_append]
    refine ⟨h.diff, List.pairwise_singleton _ _, fun x hx y hy => ?_⟩
    rw [List.mem_singleton.1 hy]
    exact fun k => hn (h.whole _ _ (h.kids x hx).2 k)
theorem Pc.Vi.kidsOf (h : P.Vi o a s0 L seen) (hall : ∀ s q, P.Same a s → A4 s q → P.has q → P.col q ≠ P.col a → ¬ P.SameO o q → ∃ e ∈ L, P.Same e.1 q) : P.Kids o a L :=
  ⟨fun e he => (h.kids e he).1, h.diff, hall⟩
theorem Pc.Vi.vq (h : P.Vi o a s0 L seen) : P.Vq o a s0 seen :=
  ⟨h.base, fun x hx => (h.grow x hx).elim .inl (fun ⟨e, he, hse⟩ => .inr (sd_sub (h.kids e he).1.1 h.pre.has h.pre.no (h.kids e he).1.2.1 h.pre.adj hse)), h.whole⟩
theorem Pc.Nd.mono {n : Nat} : ∀ {k : Nat} {o : Option Cell} {a : Cell} {c : Txt} {d : Nat}, P.Nd n o a c d → P.Nd (n + k) o a c d := by
  induction n with
  | zero => intro k o a c d h; exact absurd h (fun h => h)
  | succ n ih =>
    intro k o a c d h
    obtain ⟨L, K, hL, hc, hd⟩ := h
    rw [show n + 1 + k = (n + k) + 1 by omega]
    exact ⟨L, K, fun e he => ih (hL e he), hc, hd⟩
end
end Go.Proofs.YtdhajndmebnknaaGreat

namespace Go.Proofs.YtdhajndmebnknaaGreat
open Go.RowKit

/-- How many pixels have been seen. -/
def Pc.cnt (P : Pc) (s : Cell → Bool) : Nat := (List.range (P.W * P.H)).countP fun i => s (((i % P.W : Nat) : Int), ((i / P.W : Nat) : Int))
section
variable {P : Pc} {a q : Cell} {o : Option Cell} {s s' s0 : Cell → Bool} {L : List Kid} {n : Nat}
theorem cnt_all : P.cnt s ≤ P.W * P.H := by
  unfold Pc.cnt
  exact Nat.le_trans List.countP_le_length (by simp)
theorem cnt_mono (h : ∀ x, s x = true → s' x = true) : P.cnt s ≤ P.cnt s' := List.countP_mono_left (fun _ _ hi => h _ hi)
theorem countP_lt {α : Type} {p r : α → Bool} : ∀ {l : List α}, (∀ x ∈ l, p x = true → r x = true) → (∃ x ∈ l, p x = false ∧ r x = true) → l.countP p + 1 ≤ l.countP r
  | [], _, ⟨x, hx, _⟩ => by simp at hx
  | y :: l, h, ⟨x, hx, h1, h2⟩ => by
    rw [List.countP_cons, List.countP_cons]
    by_cases e : x = y
    · subst e
      have := List.countP_mono_left (l := l) (fun z hz hz2 => h z (List.mem_cons_of_mem _ hz) hz2)
      rw [h1, h2]; simp; omega
    · have hx2 : x ∈ l := by rcases List.mem_cons.1 hx with e2 | e2; exact absurd e2 e; exact e2
      have := countP_lt (l := l) (fun z hz hz2 => h z (List.mem_cons_of_mem _ hz) hz2) ⟨x, hx2, h1, h2⟩
      have hy := h y (List.mem_cons_self ..)
      cases e1 : p y <;> cases e2 : r y <;> simp_all <;> omega
theorem cnt_lt (h : ∀ x, s x = true → s' x = true) (hq : P.has q) (h1 : s q = false) (h2 : s' q = true) : P.cnt s + 1 ≤ P.cnt s' := by
  obtain ⟨⟨q1, q2⟩, q3, q4⟩ := hq
  obtain ⟨x, hx⟩ := Int.eq_ofNat_of_zero_le q1
  obtain ⟨y, hy⟩ := Int.eq_ofNat_of_zero_le q3
  have hxW : x < P.W := by omega
  have hyH : y < P.H := by omega
  have e1 : (y * P.W + x) % P.W = x := by rw [Nat.add_comm, Nat.add_mul_mod_self_right, Nat.mod_eq_of_lt hxW]
  have e2 : (y * P.W + x) / P.W = y := by rw [Nat.add_comm, Nat.add_mul_div_right _ _ (by omega), Nat.div_eq_of_lt hxW, Nat.zero_add]
  have hq' : q = ((x : Int), (y : Int)) := Prod.ext hx hy
  refine countP_lt (fun i _ hi => h _ hi) ⟨y * P.W + x, ?_, ?_, ?_⟩
  · rw [List.mem_range]
    have : (y + 1) * P.W ≤ P.H * P.W := Nat.mul_le_mul_right _ hyH
    rw [Nat.add_mul, Nat.mul_comm P.H] at this
    omega
  · simp only [e1, e2, ← hq', h1]
  · simp only [e1, e2, ← hq', h2]
/-- What the visit of a part keeps. -/
structure Pc.Ts (P : Pc) (o : Option Cell) (a : Cell) (s0 : Cell → Bool) (n : Nat) (L : List Kid) (s : Cell → Bool) : Prop where
  vi : P.Vi o a (fun x => s0 x = true) L (fun x => s x = true)
  nd : ∀ e ∈ L, P.Nd n (some a) e.1 e.2.1 e.2.2
  dep : ∀ e ∈ L, e.2.2 ≤ n
  len : (L.map fun e => e.2.1.length).sum + 2 * P.cnt s0 ≤ 2 * P.cnt s
  few : L.length + P.cnt s0 ≤ P.cnt s
/-- What a visit of a part answers. -/
structure Pc.Ta (P : Pc) (o : Option Cell) (a : Cell) (s0 : Cell → Bool) (n : Nat) (c : Txt) (d : Nat) (s : Cell → Bool) : Prop where
  nd : P.Nd n o a c d
  dep : d ≤ n
  len : c.length + 2 * P.cnt s0 ≤ 2 * P.cnt s + 2
  vq : P.Vq o a (fun x => s0 x = true) (fun x => s x = true)
theorem Pc.Ts.start (h : P.Vp o a (fun x => s0 x = true)) : P.Ts o a s0 n [] s0 :=
  ⟨h.vi, fun e he => absurd he (by simp), fun e he => absurd he (by simp), by simp, by simp⟩
/-- A new part: what is known ahead of its visit. -/
theorem Pc.Ts.take {x : Cell} {R : Cell → Bool} (h : P.Ts o a s0 n L s) (hR : ∀ z, R z = true ↔ P.Same q z) (hs : P.Same a x) (hq : P.has q) (hsq : A4 x q) (hc : P.col q ≠ P.col a) (hn : s q = false) (hfuel : P.W * P.H + 1 ≤ n + 1 + P.cnt s0) :
    P.Vp (some a) q (fun z => (s z || R z) = true) ∧ P.cnt s + 1 ≤ P.cnt (fun z => s z || R z) ∧ P.W * P.H + 1 ≤ n + P.cnt (fun z => s z || R z) := by
  obtain ⟨_, _, v⟩ := h.vi.take hs hq hsq hc (by simp [hn])
  have e : (fun z => s z = true ∨ P.Same q z) = fun z => (s z || R z) = true := by
    funext z
    rw [Bool.or_eq_true, hR]
  rw [e] at v
  have c1 := cnt_lt (P := P) (s := s) (s' := fun z => s z || R z) (fun z hz => by simp [hz]) hq hn (by simp [(hR q).2 (.start hq)])
  refine ⟨v, c1, ?_⟩
  have := h.few
  omega
theorem Pc.Ts.back {x : Cell} {R : Cell → Bool} {c : Txt} {d : Nat} (h : P.Ts o a s0 n L s) (hR : ∀ z, R z = true ↔ P.Same q z) (hs : P.Same a x) (hq : P.has q) (hsq : A4 x q) (hc : P.col q ≠ P.col a) (hn : s q = false)
    (hv : P.Ta (some a) q (fun z => s z || R z) n c d s') : P.Ts o a s0 n (L ++ [(q, c, d)]) s' := by
  have e : (fun z => s z = true ∨ P.Same q z) = fun z => (s z || R z) = true := by
    funext z
    rw [Bool.or_eq_true, hR]
  have c1 := cnt_lt (P := P) (s := s) (s' := fun z => s z || R z) (fun z hz => by simp [hz]) hq hn (by simp [(hR q).2 (.start hq)])
  have c2 := cnt_mono (P := P) (s := fun z => s z || R z) (s' := s') hv.vq.base
  refine ⟨h.vi.back hs hq hsq hc (by simp [hn]) (by rw [e]; exact hv.vq), fun e he => ?_, fun e he => ?_, ?_, ?_⟩
  · rcases List.mem_append.1 he with he | he
    · exact h.nd e he
    · rw [List.mem_singleton.1 he]; exact hv.nd
  · rcases List.mem_append.1 he with he | he
    · exact h.dep e he
    · rw [List.mem_singleton.1 he]; exact hv.dep
  · have h1 := h.len
    have h2 := hv.len
    rw [List.map_append, List.sum_append]
    simp only [List.map_cons, List.map_nil, List.sum_cons, List.sum_nil]
    omega
  · have h1 := h.few
    rw [List.length_append, List.length_singleton]
    omega
theorem deep_le {m : Nat} : ∀ {l : List Nat}, (∀ d ∈ l, d ≤ m) → deepC l ≤ m + 1
  | [], _ => by simp [deepC]
  | d :: l, h => by
    have h1 := h d (List.mem_cons_self ..)
    have h2 := deep_le (l := l) (fun x hx => h x (List.mem_cons_of_mem _ hx))
    rw [deepC]; omega
theorem wrap_len (cs : List Txt) : (wrapC cs).length = (cs.map List.length).sum + 2 := by
  have : (srtC cs).flatten.length = (cs.map List.length).sum := by
    rw [List.length_flatten]
    exact ((srt_perm cs).map List.length).sum_nat
  rw [wrapC, List.length_cons, List.length_append, this]
  simp
/-- All neighbours have been looked at. -/
theorem Pc.Ts.done (h : P.Ts o a s0 n L s) (hall : ∀ x q, P.Same a x → A4 x q → P.has q → P.col q ≠ P.col a → ¬ P.SameO o q → ∃ e ∈ L, P.Same e.1 q) :
    P.Ta o a s0 (n + 1) (wrapC (L.map fun e => e.2.1)) (deepC (L.map fun e => e.2.2)) s := by
  refine ⟨⟨L, h.vi.kidsOf hall, h.nd, rfl, rfl⟩, deep_le (fun d hd => ?_), ?_, h.vi.vq⟩
  · obtain ⟨e, he, rfl⟩ := List.mem_map.1 hd
    exact h.dep e he
  · rw [wrap_len, List.map_map]
    have := h.len
    simp only [Function.comp_def]
    omega
end
end Go.Proofs.YtdhajndmebnknaaGreat
