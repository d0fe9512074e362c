/- Trees of squares: the plain part. -/
import Derived.Test.YtogefmkplkddoaaDoorBase
namespace Go.Proofs.YtogefmkplkddoaaDoor
open Go.RowKit

inductive QT where
  | leaf (b : Bool)
  | node (a b c d : QT)
def clr (b : Bool) : UInt8 := if b then 35 else 46
def bit1 (b : Bool) : UInt8 := if b then 49 else 48
def QT.txt : QT → List UInt8
  | .leaf b => [clr b]
  | .node a b c d => 40 :: (a.txt ++ (b.txt ++ (c.txt ++ (d.txt ++ [41]))))
/-- Four leaves of one colour. -/
def mono : QT → QT → QT → QT → Bool
  | .leaf a, .leaf b, .leaf c, .leaf d => a == b && (b == c && c == d)
  | _, _, _, _ => false
def QT.nrm : QT → Bool
  | .leaf _ => true
  | .node a b c d => a.nrm && (b.nrm && (c.nrm && (d.nrm && !mono a b c d)))
def QT.fits : Nat → QT → Bool
  | _, .leaf _ => true
  | 0, .node .. => false
  | n + 1, .node a b c d => a.fits n && (b.fits n && (c.fits n && d.fits n))
/-- The code of a tree. -/
def QT.pk : Nat → QT → List UInt8
  | 0, .leaf b => [bit1 b]
  | _ + 1, .leaf b => [48, bit1 b]
  | 0, .node a b c d => 49 :: (a.pk 0 ++ (b.pk 0 ++ (c.pk 0 ++ d.pk 0)))
  | n + 1, .node a b c d => 49 :: (a.pk n ++ (b.pk n ++ (c.pk n ++ d.pk n)))
/-- The end of a square of four: a bracket; with k: not of four leaves of one colour. -/
def rdE (k : Bool) (a b c d : QT) : List UInt8 → Option (QT × List UInt8)
  | e :: r => if e = 41 ∧ (k && mono a b c d) = false then some (.node a b c d, r) else none
  | [] => none
/-- A tree read from a text, and what stands behind; with k: a normal one. -/
def rd (k : Bool) : Nat → List UInt8 → Option (QT × List UInt8)
  | _, [] => none
  | 0, c :: r => if c = 35 ∨ c = 46 then some (.leaf (c == 35), r) else none
  | n + 1, c :: r => if c = 35 ∨ c = 46 then some (.leaf (c == 35), r) else if c = 40 then
      (rd k n r).bind fun a => (rd k n a.2).bind fun b => (rd k n b.2).bind fun c => (rd k n c.2).bind fun d => rdE k a.1 b.1 c.1 d.1 d.2
    else none
theorem rd_nil (k : Bool) (n : Nat) : rd k n [] = none := by cases n <;> rfl
theorem rd_leaf (k : Bool) (n : Nat) {c : UInt8} {r : List UInt8} (h : c = 35 ∨ c = 46) : rd k n (c :: r) = some (.leaf (c == 35), r) := by
  cases n <;> simp [rd, h]
theorem rd_bad0 (k : Bool) {c : UInt8} {r : List UInt8} (h : ¬ (c = 35 ∨ c = 46)) : rd k 0 (c :: r) = none := by simp [rd, h]
theorem rd_bad (k : Bool) (n : Nat) {c : UInt8} {r : List UInt8} (h : ¬ (c = 35 ∨ c = 46)) (h2 : c ≠ 40) : rd k n (c :: r) = none := by
  cases n <;> simp [rd, h, h2]
theorem rd_node (k : Bool) (n : Nat) (r : List UInt8) : rd k (n + 1) (40 :: r) = (rd k n r).bind fun a => (rd k n a.2).bind fun b => (rd k n b.2).bind fun c => (rd k n c.2).bind fun d => rdE k a.1 b.1 c.1 d.1 d.2 := by
  simp [rd]
theorem rdE_some {k : Bool} {a b c d : QT} {l : List UInt8} {T : QT} {r : List UInt8} (h : rdE k a b c d l = some (T, r)) : l = 41 :: r ∧ T = .node a b c d ∧ (k && mono a b c d) = false := by
  cases l with
  | nil => cases h
  | cons e s =>
    simp only [rdE] at h
    split at h
    · rename_i h2
      cases h
      exact ⟨by rw [h2.1], rfl, h2.2⟩
    · cases h
/-- What is read is there, fits, and is normal if that is asked. -/
theorem rd_some {k : Bool} : ∀ (n : Nat) (l : List UInt8) (T : QT) (r : List UInt8), rd k n l = some (T, r) → l = T.txt ++ r ∧ T.fits n = true ∧ (k = true → T.nrm = true)
  | n, [], T, r, h => by rw [rd_nil] at h; cases h
  | n, c :: s, T, r, h => by
    by_cases hc : c = 35 ∨ c = 46
    · rw [rd_leaf k n hc] at h
      cases h
      refine ⟨?_, by cases n <;> rfl, fun _ => rfl⟩
      rcases hc with rfl | rfl <;> rfl
    · by_cases h4 : c = 40
      · subst h4
        cases n with
        | zero => rw [rd_bad0 k hc] at h; cases h
        | succ n =>
          rw [rd_node] at h
          cases ha : rd k n s with
          | none => rw [ha] at h; cases h
          | some a =>
            obtain ⟨a, ra⟩ := a
            rw [ha] at h; simp only [Option.bind_some] at h
            cases hb : rd k n ra with
            | none => rw [hb] at h; cases h
            | some b =>
              obtain ⟨b, rb⟩ := b
              rw [hb] at h; simp only [Option.bind_some] at h
              cases hcc : rd k n rb with
              | none => rw [hcc] at h; cases h
              | some c =>
                obtain ⟨c, rc⟩ := c
                rw [hcc] at h; simp only [Option.bind_some] at h
                cases hd : rd k n rc with
                | none => rw [hd] at h; cases h
                | some d =>
                  obtain ⟨d, rdd⟩ := d
                  rw [hd] at h; simp only [Option.bind_some] at h
                  obtain ⟨e1, rfl, e3⟩ := rdE_some h
                  obtain ⟨a1, a2, a3⟩ := rd_some n s a ra ha
                  obtain ⟨b1, b2, b3⟩ := rd_some n ra b rb hb
                  obtain ⟨c1, c2, c3⟩ := rd_some n rb c rc hcc
                  obtain ⟨d1, d2, d3⟩ := rd_some n rc d rdd hd
                  refine ⟨?_, by simp [QT.fits, a2, b2, c2, d2], fun hk => ?_⟩
                  · rw [a1, b1, c1, d1, e1]; simp [QT.txt]
                  · subst hk
                    simp only [Bool.true_and] at e3
                    simp [QT.nrm, a3, b3, c3, d3, e3]
      · rw [rd_bad k n hc h4] at h; cases h
theorem rd_txt {k : Bool} : ∀ (n : Nat) (T : QT) (r : List UInt8), T.fits n = true → (k = true → T.nrm = true) → rd k n (T.txt ++ r) = some (T, r)
  | n, .leaf b, r, _, _ => by
    cases b
    · exact rd_leaf k n (.inr rfl)
    · exact rd_leaf k n (.inl rfl)
  | 0, .node a b c d, r, h, _ => by cases h
  | n + 1, .node a b c d, r, h, hk => by
    simp only [QT.fits, Bool.and_eq_true] at h
    obtain ⟨f1, f2, f3, f4⟩ := h
    have hk' : k = true → (a.nrm = true ∧ b.nrm = true ∧ c.nrm = true ∧ d.nrm = true ∧ mono a b c d = false) := fun e => by
      have := hk e
      simpa [QT.nrm] using this
    have e : QT.txt (.node a b c d) ++ r = 40 :: (a.txt ++ (b.txt ++ (c.txt ++ (d.txt ++ (41 :: r))))) := by simp [QT.txt]
    rw [e, rd_node, rd_txt n a _ f1 (fun e => (hk' e).1)]
    simp only [Option.bind_some]
    rw [rd_txt n b _ f2 (fun e => (hk' e).2.1)]
    simp only [Option.bind_some]
    rw [rd_txt n c _ f3 (fun e => (hk' e).2.2.1)]
    simp only [Option.bind_some]
    rw [rd_txt n d _ f4 (fun e => (hk' e).2.2.2.1)]
    simp only [Option.bind_some, rdE]
    rw [if_pos]
    refine ⟨by trivial, ?_⟩
    cases k
    · rfl
    · rw [Bool.true_and]; exact (hk' rfl).2.2.2.2
theorem txt_inj {n : Nat} {S T : QT} (hS : S.fits n = true) (hT : T.fits n = true) (h : S.txt = T.txt) : S = T := by
  have h1 := rd_txt (k := false) n S [] hS (fun e => by cases e)
  have h2 := rd_txt (k := false) n T [] hT (fun e => by cases e)
  rw [h, h2] at h1
  cases h1; rfl
/-- A normal tree is read as one, and no other. -/
theorem rd_true_iff (n : Nat) (l : List UInt8) : (∃ T, rd true n l = some (T, [])) ↔ ∃ T, rd false n l = some (T, []) ∧ T.nrm = true := by
  constructor
  · rintro ⟨T, h⟩
    obtain ⟨h1, h2, h3⟩ := rd_some n l T [] h
    refine ⟨T, ?_, h3 rfl⟩
    rw [h1]; exact rd_txt n T [] h2 (fun e => by cases e)
  · rintro ⟨T, h, hn⟩
    obtain ⟨h1, h2, _⟩ := rd_some n l T [] h
    refine ⟨T, ?_⟩
    rw [h1]; exact rd_txt n T [] h2 (fun _ => hn)
theorem txt_len : ∀ (n : Nat) (T : QT), T.fits n = true → T.txt.length ≤ 3 * 4 ^ n - 2
  | 0, .leaf b, _ => by simp [QT.txt]
  | n + 1, .leaf b, _ => by
    have : 1 ≤ 4 ^ (n + 1) := Nat.one_le_pow _ _ (by decide)
    simp [QT.txt]; omega
  | 0, .node .., h => by cases h
  | n + 1, .node a b c d, h => by
    simp only [QT.fits, Bool.and_eq_true] at h
    have h1 := txt_len n a h.1
    have h2 := txt_len n b h.2.1
    have h3 := txt_len n c h.2.2.1
    have h4 := txt_len n d h.2.2.2
    have : 1 ≤ 4 ^ n := Nat.one_le_pow _ _ (by decide)
    have e : 4 ^ (n + 1) = 4 * 4 ^ n := by rw [Nat.pow_succ]; omega
    simp only [QT.txt, List.length_cons, List.length_append, List.length_nil]
    omega

theorem mono_txt (a b c d : QT) : ((40 :: (a.txt ++ (b.txt ++ (c.txt ++ d.txt))) == [40, 35, 35, 35, 35]) || (40 :: (a.txt ++ (b.txt ++ (c.txt ++ d.txt))) == [40, 46, 46, 46, 46])) = mono a b c d := by
  cases a with
  | node => simp [QT.txt, mono]
  | leaf x => cases b with
    | node => simp [QT.txt, mono]
    | leaf y => cases c with
      | node => simp [QT.txt, mono]
      | leaf z => cases d with
        | node => simp [QT.txt, mono]
        | leaf u => cases x <;> cases y <;> cases z <;> cases u <;> rfl

/-- The pixels of a tree, a square of 2 ^ n. -/
def QT.px : Nat → QT → Nat → Nat → Bool
  | _, .leaf b, _, _ => b
  | 0, .node .., _, _ => false
  | n + 1, .node a b c d, i, j => if j < 2 ^ n then (if i < 2 ^ n then a.px n i j else b.px n (i - 2 ^ n) j) else (if i < 2 ^ n then c.px n i (j - 2 ^ n) else d.px n (i - 2 ^ n) (j - 2 ^ n))
/-- All pixels of a square are like its first. -/
def same (n : Nat) (f : Nat → Nat → Bool) : Prop := ∀ i j, i < 2 ^ n → j < 2 ^ n → f i j = f 0 0
open Classical in
/-- The tree of a square. -/
noncomputable def qtf : Nat → (Nat → Nat → Bool) → QT
  | 0, f => .leaf (f 0 0)
  | n + 1, f => if same (n + 1) f then .leaf (f 0 0) else
    .node (qtf n f) (qtf n fun i j => f (i + 2 ^ n) j) (qtf n fun i j => f i (j + 2 ^ n)) (qtf n fun i j => f (i + 2 ^ n) (j + 2 ^ n))
theorem same_zero (f : Nat → Nat → Bool) : same 0 f := fun i j hi hj => by
  have : i = 0 := by omega
  have : j = 0 := by omega
  subst_vars; rfl
theorem qtf_same {n : Nat} {f : Nat → Nat → Bool} (h : same n f) : qtf n f = .leaf (f 0 0) := by
  cases n with
  | zero => rfl
  | succ n => rw [qtf, if_pos h]
theorem qtf_node {n : Nat} {f : Nat → Nat → Bool} (h : ¬ same (n + 1) f) : qtf (n + 1) f = .node (qtf n f) (qtf n fun i j => f (i + 2 ^ n) j) (qtf n fun i j => f i (j + 2 ^ n)) (qtf n fun i j => f (i + 2 ^ n) (j + 2 ^ n)) := by rw [qtf, if_neg h]
theorem qtf_congr : ∀ (n : Nat) (f g : Nat → Nat → Bool), (∀ i j, i < 2 ^ n → j < 2 ^ n → f i j = g i j) → qtf n f = qtf n g
  | 0, f, g, h => by rw [qtf, qtf, h 0 0 (by simp) (by simp)]
  | n + 1, f, g, h => by
    have e2 : 2 ^ (n + 1) = 2 ^ n + 2 ^ n := by rw [Nat.pow_succ]; omega
    have hp : 0 < 2 ^ n := Nat.pow_pos (by decide)
    have hs : same (n + 1) f ↔ same (n + 1) g := by
      constructor
      · intro hf i j hi hj; rw [← h i j hi hj, ← h 0 0 (by omega) (by omega)]; exact hf i j hi hj
      · intro hf i j hi hj; rw [h i j hi hj, h 0 0 (by omega) (by omega)]; exact hf i j hi hj
    by_cases hf : same (n + 1) f
    · rw [qtf_same hf, qtf_same (hs.1 hf), h 0 0 (by omega) (by omega)]
    · rw [qtf_node hf, qtf_node (fun x => hf (hs.2 x))]
      rw [qtf_congr n f g (fun i j hi hj => h i j (by omega) (by omega)),
        qtf_congr n _ (fun i j => g (i + 2 ^ n) j) (fun i j hi hj => h (i + 2 ^ n) j (by omega) (by omega)),
        qtf_congr n _ (fun i j => g i (j + 2 ^ n)) (fun i j hi hj => h i (j + 2 ^ n) (by omega) (by omega)),
        qtf_congr n _ (fun i j => g (i + 2 ^ n) (j + 2 ^ n)) (fun i j hi hj => h (i + 2 ^ n) (j + 2 ^ n) (by omega) (by omega))]
theorem qtf_fits : ∀ (n : Nat) (f : Nat → Nat → Bool), (qtf n f).fits n = true
  | 0, f => rfl
  | n + 1, f => by
    by_cases h : same (n + 1) f
    · rw [qtf_same h]; rfl
    · rw [qtf_node h]
      simp [QT.fits, qtf_fits n]
theorem mono_iff {a b c d : QT} : mono a b c d = true ↔ ∃ x, a = .leaf x ∧ b = .leaf x ∧ c = .leaf x ∧ d = .leaf x := by
  cases a <;> cases b <;> cases c <;> cases d <;> simp [mono]
  all_goals (try (constructor <;> simp_all))
/-- A square whose tree is a leaf is of one colour. -/
theorem qtf_leaf {n : Nat} {f : Nat → Nat → Bool} {x : Bool} (h : qtf n f = .leaf x) : ∀ i j, i < 2 ^ n → j < 2 ^ n → f i j = x := by
  by_cases hs : same n f
  · rw [qtf_same hs] at h
    cases h
    exact hs
  · cases n with
    | zero => exact absurd (same_zero f) hs
    | succ n => rw [qtf_node hs] at h; cases h
theorem qtf_nrm : ∀ (n : Nat) (f : Nat → Nat → Bool), (qtf n f).nrm = true
  | 0, f => rfl
  | n + 1, f => by
    have e2 : 2 ^ (n + 1) = 2 ^ n + 2 ^ n := by rw [Nat.pow_succ]; omega
    have hp : 0 < 2 ^ n := Nat.pow_pos (by decide)
    by_cases h : same (n + 1) f
    · rw [qtf_same h]; rfl
    · rw [qtf_node h]
      have hm : mono (qtf n f) (qtf n fun i j => f (i + 2 ^ n) j) (qtf n fun i j => f i (j + 2 ^ n)) (qtf n fun i j => f (i + 2 ^ n) (j + 2 ^ n)) = false := by
        cases hmm : mono (qtf n f) (qtf n fun i j => f (i + 2 ^ n) j) (qtf n fun i j => f i (j + 2 ^ n)) (qtf n fun i j => f (i + 2 ^ n) (j + 2 ^ n)) with
        | false => rfl
        | true =>
          obtain ⟨x, h1, h2, h3, h4⟩ := mono_iff.1 hmm
          have h1 := qtf_leaf h1
          have h2 := qtf_leaf h2
          have h3 := qtf_leaf h3
          have h4 := qtf_leaf h4
          refine absurd (fun i j hi hj => ?_) h
          rw [h1 0 0 hp hp]
          by_cases hi2 : i < 2 ^ n
          · by_cases hj2 : j < 2 ^ n
            · exact h1 i j hi2 hj2
            · have := h3 i (j - 2 ^ n) hi2 (by omega)
              simpa [show j - 2 ^ n + 2 ^ n = j by omega] using this
          · by_cases hj2 : j < 2 ^ n
            · have := h2 (i - 2 ^ n) j (by omega) hj2
              simpa [show i - 2 ^ n + 2 ^ n = i by omega] using this
            · have := h4 (i - 2 ^ n) (j - 2 ^ n) (by omega) (by omega)
              simpa [show i - 2 ^ n + 2 ^ n = i by omega, show j - 2 ^ n + 2 ^ n = j by omega] using this
      simp [QT.nrm, qtf_nrm n, hm]
/-- The tree of a normal tree's pixels is the tree. -/
theorem qtf_px : ∀ (n : Nat) (T : QT), T.fits n = true → T.nrm = true → qtf n (T.px n) = T
  | n, .leaf b, _, _ => by
    have hs : same n (QT.px n (.leaf b)) := fun i j _ _ => by cases n <;> rfl
    rw [qtf_same hs]
    cases n <;> rfl
  | 0, .node .., h, _ => by cases h
  | n + 1, .node a b c d, h, hn => by
    have e2 : 2 ^ (n + 1) = 2 ^ n + 2 ^ n := by rw [Nat.pow_succ]; omega
    have hp : 0 < 2 ^ n := Nat.pow_pos (by decide)
    simp only [QT.fits, Bool.and_eq_true] at h
    simp only [QT.nrm, Bool.and_eq_true] at hn
    obtain ⟨f1, f2, f3, f4⟩ := h
    obtain ⟨n1, n2, n3, n4, n5⟩ := hn
    have q1 : qtf n (QT.px (n + 1) (.node a b c d)) = a := by
      rw [← qtf_px n a f1 n1]
      refine qtf_congr n _ _ (fun i j hi hj => ?_)
      rw [qtf_px n a f1 n1]
      simp [QT.px, hi, hj]
    have q2 : (qtf n fun i j => QT.px (n + 1) (.node a b c d) (i + 2 ^ n) j) = b := by
      rw [← qtf_px n b f2 n2]
      refine qtf_congr n _ _ (fun i j hi hj => ?_)
      rw [qtf_px n b f2 n2]
      simp [QT.px, hj, show ¬ i + 2 ^ n < 2 ^ n by omega]
    have q3 : (qtf n fun i j => QT.px (n + 1) (.node a b c d) i (j + 2 ^ n)) = c := by
      rw [← qtf_px n c f3 n3]
      refine qtf_congr n _ _ (fun i j hi hj => ?_)
      rw [qtf_px n c f3 n3]
      simp [QT.px, hi, show ¬ j + 2 ^ n < 2 ^ n by omega]
    have q4 : (qtf n fun i j => QT.px (n + 1) (.node a b c d) (i + 2 ^ n) (j + 2 ^ n)) = d := by
      rw [← qtf_px n d f4 n4]
      refine qtf_congr n _ _ (fun i j hi hj => ?_)
      rw [qtf_px n d f4 n4]
      simp [QT.px, show ¬ i + 2 ^ n < 2 ^ n by omega, show ¬ j + 2 ^ n < 2 ^ n by omega]
    have hns : ¬ same (n + 1) (QT.px (n + 1) (.node a b c d)) := fun hs => by
      have hx : ∀ i j, i < 2 ^ (n + 1) → j < 2 ^ (n + 1) → QT.px (n + 1) (.node a b c d) i j = QT.px (n + 1) (.node a b c d) 0 0 := hs
      generalize QT.px (n + 1) (.node a b c d) 0 0 = x at hx
      have l1 : a = .leaf x := by
        rw [← q1, qtf_congr n _ (fun _ _ => x) (fun i j hi hj => hx i j (by omega) (by omega))]
        exact qtf_same (fun _ _ _ _ => rfl)
      have l2 : b = .leaf x := by
        rw [← q2, qtf_congr n _ (fun _ _ => x) (fun i j hi hj => hx _ j (by omega) (by omega))]
        exact qtf_same (fun _ _ _ _ => rfl)
      have l3 : c = .leaf x := by
        rw [← q3, qtf_congr n _ (fun _ _ => x) (fun i j hi hj => hx i _ (by omega) (by omega))]
        exact qtf_same (fun _ _ _ _ => rfl)
      have l4 : d = .leaf x := by
        rw [← q4, qtf_congr n _ (fun _ _ => x) (fun i j hi hj => hx _ _ (by omega) (by omega))]
        exact qtf_same (fun _ _ _ _ => rfl)
      have := mono_iff.2 ⟨x, l1, l2, l3, l4⟩
      rw [this] at n5
      cases n5
    rw [qtf_node hns, q1, q2, q3, q4]
end Go.Proofs.YtogefmkplkddoaaDoor
