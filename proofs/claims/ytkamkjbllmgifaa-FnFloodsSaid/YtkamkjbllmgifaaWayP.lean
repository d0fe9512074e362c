/- The shortest way over low numbers, first among its like: plain. -/
import Derived.Test.YtkamkjbllmgifaaBfs
import Derived.Test.YtkamkjbllmgifaaEowS
namespace Go.Proofs.Ytkamkjbllmgifaa
open Go.RowKit

section
variable {W H : Nat} {G : Nat → Int} {P : Int}
/-- A pixel with a number of at most P. -/
def okW (W H : Nat) (G : Nat → Int) (P : Int) (s : Int × Int) : Bool := inG W H s && decide (G (plc W s) ≤ P)
def nb4 (s : Int × Int) : List (Int × Int) := arL s.1 s.2
theorem plc_inj {a b : Int × Int} (ha : inG W H a = true) (hb : inG W H b = true) (h : plc W a = plc W b) : a = b := by
  rw [inG_iff] at ha hb
  unfold plc at h
  have h1 : a.1.toNat < W := by omega
  have h2 : b.1.toNat < W := by omega
  have e1 := plD (y := a.2.toNat) h1
  have e2 := plD (y := b.2.toNat) h2
  have e3 := plM (y := a.2.toNat) h1
  have e4 := plM (y := b.2.toNat) h2
  rw [h] at e1 e3
  exact Prod.ext (by omega) (by omega)
theorem okW_in {s : Int × Int} (h : okW W H G P s = true) : inG W H s = true := by
  rw [okW, Bool.and_eq_true] at h; exact h.1
theorem BInv.len {nb : Int × Int → List (Int × Int)} {ok : Int × Int → Bool} {st : Int × Int → Prop} {s : BS (Int × Int)} {i : Nat} {S : Int × Int → Prop} (h : BInv nb ok st s i S) (hok : ∀ q, ok q = true → inG W H q = true) : s.Q.length ≤ W * H := by
  have := nodup_len (W * H) (s.Q.map (plc W)) ?_ ?_
  · simpa using this
  · rw [List.Nodup, List.pairwise_map]
    refine List.Pairwise.imp_of_mem ?_ h.nodup
    intro a b ha hb hne he
    exact hne (plc_inj (hok a (h.good a ha)) (hok b (h.good b hb)) he)
  · intro x hx
    obtain ⟨q, hq, rfl⟩ := List.mem_map.1 hx
    exact plc_lt (hok q (h.good q hq))

/-- How far the end is, over low numbers. -/
def start1 (b : Int × Int) : BS (Int × Int) := ⟨[b], fun x => if x = b then some 0 else none⟩
def farS (W H : Nat) (G : Nat → Int) (P : Int) (b : Int × Int) (i : Nat) : BS (Int × Int) := (start1 b).after nb4 (okW W H G P) i
abbrev FInv (W H : Nat) (G : Nat → Int) (P : Int) (b : Int × Int) (s : BS (Int × Int)) (i : Nat) : Prop := BInv nb4 (okW W H G P) (fun x => x = b) s i (fun _ => False)
theorem farS_zero {b : Int × Int} (hb : okW W H G P b = true) : FInv W H G P b (farS W H G P b 0) 0 := BInv.one hb
theorem farS_succ {b : Int × Int} {i : Nat} (h : FInv W H G P b (farS W H G P b i) i) (hi : i < (farS W H G P b i).Q.length) : FInv W H G P b (farS W H G P b (i + 1)) (i + 1) := BInv.after h hi
theorem farS_all {b : Int × Int} (hb : okW W H G P b = true) : ∀ i, (∀ j, j < i → j < (farS W H G P b j).Q.length) → FInv W H G P b (farS W H G P b i) i := by
  intro i
  induction i with
  | zero => intro _; exact farS_zero hb
  | succ i ih => intro h; exact farS_succ (ih (fun j hj => h j (by omega))) (h i (by omega))
theorem farS_len {b : Int × Int} {i : Nat} (h : FInv W H G P b (farS W H G P b i) i) : (farS W H G P b i).Q.length ≤ W * H := BInv.len h (fun _ h => okW_in h)
/-- A round of the search, in the words of its walk: the place at i, its distance, the states behind the first j neighbours. -/
def FarR (W H : Nat) (G : Nat → Int) (P : Int) (b : Int × Int) (i : Nat) : Prop :=
  ∃ (x y d : Nat) (T : Nat → BS (Int × Int)), x < W ∧ y < H ∧ (farS W H G P b i).Q.drop i = ((x : Int), (y : Int)) :: (farS W H G P b i).Q.drop (i + 1) ∧ d < W * H ∧ T 0 = farS W H G P b i ∧
    (∀ j, j < 4 → T (j + 1) = (T j).see (okW W H G P) (d + 1) ((arL x y).getD j (0, 0))) ∧
    (∀ j, j ≤ 4 → i < (T j).Q.length ∧ (T j).Q.length ≤ W * H ∧ (T j).Q.drop i = ((x : Int), (y : Int)) :: (T j).Q.drop (i + 1) ∧ (T j).f ((x : Int), (y : Int)) = some d) ∧
    T 4 = farS W H G P b (i + 1) ∧ FInv W H G P b (farS W H G P b (i + 1)) (i + 1)
theorem farR_of {b : Int × Int} {i : Nat} (h : FInv W H G P b (farS W H G P b i) i) (hi : i < (farS W H G P b i).Q.length) : FarR W H G P b i := by
  obtain ⟨d, hd, hdl⟩ := h.dist i hi
  have hl := farS_len h
  have hin := okW_in (h.good _ (List.getElem_mem hi))
  obtain ⟨x, hx⟩ : ∃ x : Nat, (farS W H G P b i).Q[i].1 = x := ⟨(farS W H G P b i).Q[i].1.toNat, by rw [inG_iff] at hin; omega⟩
  obtain ⟨y, hy⟩ : ∃ y : Nat, (farS W H G P b i).Q[i].2 = y := ⟨(farS W H G P b i).Q[i].2.toNat, by rw [inG_iff] at hin; omega⟩
  have hq : (farS W H G P b i).Q[i] = ((x : Int), (y : Int)) := Prod.ext hx hy
  rw [inG_iff, hx, hy] at hin
  have hlen : (nb4 (farS W H G P b i).Q[i]).length = 4 := rfl
  have S := h.sees hi hd (nb4 (farS W H G P b i).Q[i]) (fun _ h => h)
  refine ⟨x, y, d, fun j => (farS W H G P b i).sees (okW W H G P) (d + 1) ((nb4 (farS W H G P b i).Q[i]).take j), by omega, by omega, ?_, by omega, rfl, ?_, ?_, ?_, farS_succ h hi⟩
  · rw [← hq]; exact List.drop_eq_getElem_cons hi
  · intro j hj
    have := BS.sees_succ (okW W H G P) (d + 1) (farS W H G P b i) (nb4 (farS W H G P b i).Q[i]) j (by omega)
    simp only at this ⊢
    rw [this]
    congr 1
    rw [List.getD_eq_getElem?_getD]
    have e : nb4 (farS W H G P b i).Q[i] = arL x y := by rw [hq]; rfl
    have hl4 : j < (arL x y).length := hj
    rw [List.getElem?_eq_getElem hl4, Option.getD_some]
    simp only [e]
  · intro j hj
    obtain ⟨s1, s2, s3, s4⟩ := S j (by omega)
    refine ⟨s2, BInv.len s1 (fun _ h => okW_in h), ?_, by rw [← hq]; exact s4⟩
    have e := List.drop_eq_getElem_cons s2
    rw [s3.trans hq] at e
    exact e
  · have := BS.after_succ (nb := nb4) (ok := okW W H G P) (s := start1 b) hi hd
    simp only
    rw [List.take_of_length_le (by omega)]
    exact this.symm
def farF (W H : Nat) (G : Nat → Int) (P : Int) (b : Int × Int) : Int × Int → Option Nat := (farS W H G P b (W * H)).f
theorem farS_end {b : Int × Int} {i : Nat} (h : FInv W H G P b (farS W H G P b i) i) (hi : ¬ i < (farS W H G P b i).Q.length) : (farS W H G P b i).f = farF W H G P b ∧ FInv W H G P b (farS W H G P b (W * H)) (farS W H G P b (W * H)).Q.length := by
  have hl := farS_len h
  have he := h.le
  have e : i = (farS W H G P b i).Q.length := by omega
  have e2 := BS.after_end (nb := nb4) (ok := okW W H G P) (s := start1 b) (i := i) (by show (farS W H G P b i).Q.length ≤ i; omega) (W * H) (by omega)
  have e3 : farS W H G P b (W * H) = farS W H G P b i := e2
  unfold farF
  rw [e3]
  refine ⟨rfl, ?_⟩
  rw [← e]
  exact h

/-- The first letter of those that lead nearer. -/
def dirV (f : Int × Int → Option Nat) (p : Int × Int) (d : Nat) : Nat := if f (stepP p 0) = some d then 0 else if f (stepP p 1) = some d then 1 else if f (stepP p 2) = some d then 2 else 3
def dirs (f : Int × Int → Option Nat) : Nat → Int × Int → List Nat
  | 0, _ => []
  | d + 1, p => dirV f p d :: dirs f d (stepP p (dirV f p d))
theorem dirV_lt (f : Int × Int → Option Nat) (p : Int × Int) (d : Nat) : dirV f p d < 4 := by
  unfold dirV; split
  · omega
  split
  · omega
  split <;> omega
theorem dirV_hit {f : Int × Int → Option Nat} {p : Int × Int} {d k : Nat} (hk : k < 4) (h : f (stepP p k) = some d) (hn : ∀ j : Nat, j < k → f (stepP p j) ≠ some d) : dirV f p d = k := by
  unfold dirV
  have e : k = 0 ∨ k = 1 ∨ k = 2 ∨ k = 3 := by omega
  rcases e with rfl | rfl | rfl | rfl
  · rw [if_pos (by simpa using h)]
  · rw [if_neg (by simpa using hn 0 (by omega)), if_pos (by simpa using h)]
  · rw [if_neg (by simpa using hn 0 (by omega)), if_neg (by simpa using hn 1 (by omega)), if_pos (by simpa using h)]
  · rw [if_neg (by simpa using hn 0 (by omega)), if_neg (by simpa using hn 1 (by omega)), if_neg (by simpa using hn 2 (by omega))]
theorem step_of_nb {p q : Int × Int} (h : p ∈ nb4 q) : ∃ k : Nat, k < 4 ∧ stepP p k = q := by
  obtain ⟨x, y⟩ := q
  unfold nb4 arL at h
  simp only [List.mem_cons, List.not_mem_nil, or_false] at h
  rcases h with rfl | rfl | rfl | rfl
  · exact ⟨0, by omega, by simp [stepP]⟩
  · exact ⟨2, by omega, by simp [stepP]⟩
  · exact ⟨1, by omega, by simp [stepP]⟩
  · exact ⟨3, by omega, by simp [stepP]⟩
theorem nb4_symm {p q : Int × Int} (h : p ∈ nb4 q) : q ∈ nb4 p := by
  obtain ⟨x, y⟩ := q
  unfold nb4 arL at h ⊢
  simp only [List.mem_cons, List.not_mem_nil, or_false] at h
  rcases h with rfl | rfl | rfl | rfl <;> simp

/-- What the walk back needs of the distances. -/
structure Far (W H : Nat) (G : Nat → Int) (P : Int) (b : Int × Int) (f : Int × Int → Option Nat) : Prop where
  low : ∀ p d, f p = some d → inG W H p = true ∧ G (plc W p) ≤ P ∧ d < W * H
  zero : ∀ p, f p = some 0 ↔ p = b
  back : ∀ p d, f p = some (d + 1) → ∃ k : Nat, k < 4 ∧ f (stepP p k) = some d
  next : ∀ p q d, f p = some d → q ∈ nb4 p → inG W H q = true → G (plc W q) ≤ P → ∃ e, f q = some e ∧ e ≤ d + 1
theorem far_of {b : Int × Int} {s : BS (Int × Int)} (h : FInv W H G P b s s.Q.length) (hb : okW W H G P b = true) : Far W H G P b s.f := by
  have hl : s.Q.length ≤ W * H := BInv.len h (fun _ h => okW_in h)
  refine ⟨fun p d hp => ?_, fun p => ⟨fun hp => ?_, fun hp => ?_⟩, fun p d hp => ?_, fun p q d hp hq h1 h2 => ?_⟩
  · have hg := h.good p ((h.mem p).1 (by rw [hp]; rfl))
    rw [okW, Bool.and_eq_true] at hg
    have := h.short p d hp
    exact ⟨hg.1, by simpa using hg.2, by omega⟩
  · rcases h.pred p 0 hp with ⟨_, h1⟩ | ⟨_, e, _, h2, _⟩
    · exact h1
    · omega
  · subst hp; exact h.from_ p rfl hb
  · rcases h.pred p (d + 1) hp with ⟨h1, _⟩ | ⟨q, e, h1, h2, h3⟩
    · omega
    · obtain ⟨k, hk, e2⟩ := step_of_nb h3
      obtain rfl : d = e := by omega
      exact ⟨k, hk, by rw [e2]; exact h1⟩
  · exact h.closed hp hq (by rw [okW, h1]; simpa using h2)
theorem Far.dir {b : Int × Int} {f : Int × Int → Option Nat} (h : Far W H G P b f) {p : Int × Int} {d : Nat} (hp : f p = some (d + 1)) : f (stepP p (dirV f p d)) = some d := by
  obtain ⟨k, hk, hf⟩ := h.back p d hp
  unfold dirV
  have e : k = 0 ∨ k = 1 ∨ k = 2 ∨ k = 3 := by omega
  split
  · assumption
  · split
    · assumption
    · split
      · assumption
      · rcases e with rfl | rfl | rfl | rfl <;> first | contradiction | assumption
/-- Whatever reaches the end over low numbers is reached. -/
theorem Far.reach {b : Int × Int} {f : Int × Int → Option Nat} (h : Far W H G P b f) {a : Int × Int} (ha : inG W H a = true) (hb : inG W H b = true) (hw : Way W (W * H) G (fun i => i = plc W a) P (plc W b)) : ∃ d, f a = some d := by
  have key : ∀ i, Way W (W * H) G (fun i => i = plc W a) P i → ∀ q, inG W H q = true → plc W q = i → (∃ d, f q = some d) → ∃ d, f a = some d := by
    intro i w
    induction w with
    | start i hi hF hG => intro q hq e hd; rw [plc_inj hq ha (e.trans hF)] at hd; exact hd
    | step p s hp hadj hG ih =>
      intro q hq e hd
      obtain ⟨d, hd⟩ := hd
      have hW : 0 < W := by rw [inG_iff] at hq; omega
      obtain ⟨ep, hm⟩ := pl_eq (W := W) s hW
      have hr := pl_row hadj.2.1
      have h1 := hadj
      rw [ep] at h1
      obtain ⟨k, hk, h2, h3⟩ := arL_all hm hr h1
      have eq : q = (((s % W : Nat) : Int), ((s / W : Nat) : Int)) := plc_inj hq (by rw [inG_iff]; exact ⟨⟨Int.natCast_nonneg _, Int.ofNat_lt.2 hm⟩, Int.natCast_nonneg _, Int.ofNat_lt.2 hr⟩) (by rw [e]; unfold plc; simp only [Int.toNat_natCast]; exact ep)
      have hmem : (arL ((s % W : Nat) : Int) ((s / W : Nat) : Int)).getD k (0, 0) ∈ nb4 q := by
        rw [eq, nb4, List.getD_eq_getElem?_getD, List.getElem?_eq_getElem (by simpa [arL] using hk), Option.getD_some]
        exact List.getElem_mem _
      obtain ⟨e', he, _⟩ := h.next q _ d hd hmem h2 (by rw [h3]; exact hp.le)
      exact ih _ h2 h3 ⟨e', he⟩
  exact key _ hw b hb rfl ⟨0, (h.zero b).2 rfl⟩
end
/-- All pixels are joined. -/
theorem way_all {W H : Nat} {G : Nat → Int} {F : Nat → Prop} {h : Int} (hG : ∀ i, i < W * H → G i ≤ h) {a1 a2 : Nat} (h1 : a1 < W) (h2 : a2 < H) (hF : F (a2 * W + a1)) {x y : Nat} (hx : x < W) (hy : y < H) : Way W (W * H) G F h (y * W + x) := by
  have hor : ∀ d u v, u + d < W → v < H → (Way W (W * H) G F h (v * W + u) → Way W (W * H) G F h (v * W + (u + d))) ∧ (Way W (W * H) G F h (v * W + (u + d)) → Way W (W * H) G F h (v * W + u)) := by
    intro d
    induction d with
    | zero => intro u v _ _; exact ⟨fun w => w, fun w => w⟩
    | succ d ih =>
      intro u v hu hv
      have a : adj W (W * H) (v * W + (u + d)) (v * W + (u + (d + 1))) := (adj_xy (by omega) hv (by omega) hv).2 (.inr ⟨rfl, .inl (by omega)⟩)
      obtain ⟨i1, i2⟩ := ih u v (by omega) hv
      exact ⟨fun w => .step _ _ (i1 w) a (hG _ a.2.1), fun w => i2 (.step _ _ w a.symm (hG _ a.1))⟩
  have ver : ∀ d u v, u < W → v + d < H → (Way W (W * H) G F h (v * W + u) → Way W (W * H) G F h ((v + d) * W + u)) ∧ (Way W (W * H) G F h ((v + d) * W + u) → Way W (W * H) G F h (v * W + u)) := by
    intro d
    induction d with
    | zero => intro u v _ _; exact ⟨fun w => w, fun w => w⟩
    | succ d ih =>
      intro u v hu hv
      have a : adj W (W * H) ((v + d) * W + u) ((v + (d + 1)) * W + u) := (adj_xy hu (by omega) hu (by omega)).2 (.inl ⟨rfl, .inl (by omega)⟩)
      obtain ⟨i1, i2⟩ := ih u v hu (by omega)
      exact ⟨fun w => .step _ _ (i1 w) a (hG _ a.2.1), fun w => i2 (.step _ _ w a.symm (hG _ a.1))⟩
  have w0 : Way W (W * H) G F h (a2 * W + a1) := .start _ (pl_lt h1 h2) hF (hG _ (pl_lt h1 h2))
  have w1 : Way W (W * H) G F h (a2 * W + x) := by
    by_cases hle : a1 ≤ x
    · have := (hor (x - a1) a1 a2 (by omega) h2).1 w0
      rwa [show a1 + (x - a1) = x by omega] at this
    · have := (hor (a1 - x) x a2 (by omega) h2).2
      rw [show x + (a1 - x) = a1 by omega] at this
      exact this w0
  by_cases hle : a2 ≤ y
  · have := (ver (y - a2) x a2 hx (by omega)).1 w1
    rwa [show a2 + (y - a2) = y by omega] at this
  · have := (ver (a2 - y) x y hx (by omega)).2
    rw [show y + (a2 - y) = a2 by omega] at this
    exact this w1
/-- The least height between two pixels is that of a way. -/
theorem pass_way {W H : Nat} {G O : Nat → Int} (hG : ∀ i, i < W * H → 0 ≤ G i ∧ G i ≤ 99) {a1 a2 b1 b2 : Nat} (h1 : a1 < W) (h2 : a2 < H) (h3 : b1 < W) (h4 : b2 < H) (hO : IsPass W (W * H) G (fun i => i = a2 * W + a1) O) :
    Way W (W * H) G (fun i => i = a2 * W + a1) (O (b2 * W + b1)) (b2 * W + b1) ∧ 0 ≤ O (b2 * W + b1) ∧ O (b2 * W + b1) ≤ 99 := by
  have w := way_all (F := fun i => i = a2 * W + a1) (h := 99) (fun i hi => (hG i hi).2) h1 h2 rfl h3 h4
  have l := hO.least _ _ w
  have s := hO.sound _ (pl_lt h3 h4)
  exact ⟨s.2.2 (by omega), s.1, l⟩
end Go.Proofs.Ytkamkjbllmgifaa
