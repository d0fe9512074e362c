/- Floods: marks that spread from the least height on, plain. -/
import Derived.Test.YtkamkjbllmgifaaWaysB
namespace Go.Proofs.Ytkamkjbllmgifaa
open Go.RowKit

/-- How many places have a mark. -/
def cntM (O : Nat → Int) : Nat → Nat
  | 0 => 0
  | n + 1 => cntM O n + if O n = 0 then 0 else 1
theorem cntM_le (O : Nat → Int) : ∀ n, cntM O n ≤ n
  | 0 => Nat.le_refl _
  | n + 1 => by have := cntM_le O n; rw [cntM]; split <;> omega
theorem cntM_out {O : Nat → Int} {s : Nat} (v : Int) : ∀ n, n ≤ s → cntM (setF O s v) n = cntM O n
  | 0, _ => rfl
  | n + 1, h => by rw [cntM, cntM, cntM_out v n (by omega), setF_ne (by omega)]
theorem cntM_put {O : Nat → Int} {s : Nat} {v : Int} (h0 : O s = 0) (hv : v ≠ 0) : ∀ n, s < n → cntM (setF O s v) n = cntM O n + 1
  | 0, h => by omega
  | n + 1, h => by
    rw [cntM, cntM]
    by_cases e : s = n
    · subst e
      rw [cntM_out v _ (Nat.le_refl _), setF_same, if_neg hv, if_pos h0]
    · rw [cntM_put h0 hv n (by omega), setF_ne (fun h => e h.symm)]
      omega
/-- A flood between two pixels that are handled. -/
structure FlI (W n : Nat) (G M O hh : Nat → Int) (wt : List (Nat × Int)) (L : Int) : Prop where
  bd : ∀ i, i < n → 0 ≤ O i ∧ O i ≤ 9
  keep : ∀ i, i < n → M i ≠ 0 → O i = M i
  root : ∀ i, i < n → O i ≠ 0 → ∃ r, r < n ∧ M r ≠ 0 ∧ M r = O i ∧ Way W n G (fun j => j = r) (hh i) i
  seed : ∀ i, i < n → M i ≠ 0 → hh i ≤ G i
  wait : ∀ p ∈ wt, p.1 < n ∧ O p.1 ≠ 0 ∧ hh p.1 = p.2 ∧ L ≤ p.2
  low : ∀ i, i < n → O i ≠ 0 → hh i ≤ max (G i) L
  done : ∀ q, q < n → O q ≠ 0 → (∃ p ∈ wt, p.1 = q) ∨ ∀ s, adj W n q s → O s ≠ 0 ∧ hh s ≤ max (G s) (hh q)
  few : wt.length ≤ cntM O n
/-- A flood, a pixel at hand; T: its neighbours that are done. -/
structure FlM (W n : Nat) (G M O hh : Nat → Int) (wt : List (Nat × Int)) (q : Nat) (h : Int) (T : Nat → Prop) : Prop where
  bd : ∀ i, i < n → 0 ≤ O i ∧ O i ≤ 9
  keep : ∀ i, i < n → M i ≠ 0 → O i = M i
  root : ∀ i, i < n → O i ≠ 0 → ∃ r, r < n ∧ M r ≠ 0 ∧ M r = O i ∧ Way W n G (fun j => j = r) (hh i) i
  seed : ∀ i, i < n → M i ≠ 0 → hh i ≤ G i
  wait : ∀ p ∈ wt, p.1 < n ∧ O p.1 ≠ 0 ∧ hh p.1 = p.2 ∧ h ≤ p.2
  low : ∀ i, i < n → O i ≠ 0 → hh i ≤ max (G i) h
  done : ∀ q', q' < n → O q' ≠ 0 → q' ≠ q → (∃ p ∈ wt, p.1 = q') ∨ ∀ s, adj W n q' s → O s ≠ 0 ∧ hh s ≤ max (G s) (hh q')
  few : wt.length + 1 ≤ cntM O n
  qn : q < n
  qO : O q ≠ 0
  qh : hh q = h
  dq : ∀ s, adj W n q s → T s → O s ≠ 0
section
variable {W n : Nat} {G M O hh : Nat → Int} {wt : List (Nat × Int)} {L : Int}
theorem FlI.pop (H : FlI W n G M O hh wt L) (k : Nat) (hk : k < wt.length) (hm : ∀ p ∈ wt, (wt[k]).2 ≤ p.2) : FlM W n G M O hh (wt.eraseIdx k) (wt[k]).1 (wt[k]).2 (fun _ => False) := by
  have hw := H.wait _ (List.getElem_mem hk)
  refine ⟨H.bd, H.keep, H.root, H.seed, fun p hp => ?_, fun i hi h0 => ?_, fun q hq h0 hne => ?_, ?_, hw.1, hw.2.1, hw.2.2.1, fun _ _ h => h.elim⟩
  · have hp' := List.mem_of_mem_eraseIdx hp
    have := H.wait p hp'
    exact ⟨this.1, this.2.1, this.2.2.1, hm p hp'⟩
  · have := H.low i hi h0
    have := hw.2.2.2
    omega
  · rcases H.done q hq h0 with ⟨p, hp, e⟩ | h
    · refine .inl ⟨p, ?_, e⟩
      obtain ⟨i, hi, rfl⟩ := List.getElem_of_mem hp
      rw [List.mem_eraseIdx_iff_getElem]
      exact ⟨i, hi, fun e2 => by subst e2; exact hne e.symm, rfl⟩
    · exact .inr h
  · rw [List.length_eraseIdx, if_pos hk]
    have := H.few
    omega
variable {q : Nat} {h : Int} {T : Nat → Prop}
theorem FlM.put (H : FlM W n G M O hh wt q h T) {s : Nat} (ha : adj W n q s) (h0 : O s = 0) :
    FlM W n G M (setF O s (O q)) (setF hh s (max (G s) h)) (wt ++ [(s, max (G s) h)]) q h (fun j => j = s ∨ T j) := by
  have hsn := ha.2.1
  have hne : ∀ i, O i ≠ 0 → i ≠ s := fun i hi e => hi (by rw [e]; exact h0)
  have qs := hne q H.qO
  refine ⟨fun i hi => ?_, fun i hi hM => ?_, fun i hi hO => ?_, fun i hi hM => ?_, fun p hp => ?_, fun i hi hO => ?_, fun q' hq' hO hne' => ?_, ?_, H.qn, ?_, ?_, fun s' ha' hT => ?_⟩
  · by_cases e : i = s
    · subst e; rw [setF_same]; exact H.bd q H.qn
    · rw [setF_ne e]; exact H.bd i hi
  · have hOi := H.keep i hi hM
    rw [setF_ne (hne i (by rw [hOi]; exact hM))]; exact hOi
  · by_cases e : i = s
    · subst e
      rw [setF_same, setF_same]
      obtain ⟨r, r1, r2, r3, w⟩ := H.root q H.qn H.qO
      rw [H.qh] at w
      exact ⟨r, r1, r2, r3, .step q i (w.mono (by omega)) ha (by omega)⟩
    · rw [setF_ne e] at hO
      rw [setF_ne e, setF_ne e]
      exact H.root i hi hO
  · have hOi := H.keep i hi hM
    rw [setF_ne (hne i (by rw [hOi]; exact hM))]; exact H.seed i hi hM
  · rcases List.mem_append.1 hp with hp | hp
    · obtain ⟨h1, h2, h3, h4⟩ := H.wait p hp
      have e := hne _ h2
      rw [setF_ne e, setF_ne e]
      exact ⟨h1, h2, h3, h4⟩
    · obtain rfl := List.mem_singleton.1 hp
      simp only
      rw [setF_same, setF_same]
      exact ⟨hsn, H.qO, rfl, by omega⟩
  · by_cases e : i = s
    · subst e; rw [setF_same]; exact Int.le_refl _
    · rw [setF_ne e] at hO; rw [setF_ne e]; exact H.low i hi hO
  · by_cases e : q' = s
    · exact .inl ⟨_, List.mem_append_right _ (List.mem_singleton.2 rfl), e.symm⟩
    · rw [setF_ne e] at hO
      rcases H.done q' hq' hO hne' with ⟨p, hp, e2⟩ | h'
      · exact .inl ⟨p, List.mem_append_left _ hp, e2⟩
      · refine .inr fun t ht => ?_
        obtain ⟨h1, h2⟩ := h' t ht
        have e3 := hne t h1
        rw [setF_ne e3, setF_ne e3, setF_ne e]
        exact ⟨h1, h2⟩
  · rw [cntM_put h0 H.qO n hsn, List.length_append]
    have := H.few
    simp; omega
  · rw [setF_ne qs]; exact H.qO
  · rw [setF_ne qs]; exact H.qh
  · by_cases e : s' = s
    · subst e; rw [setF_same]; exact H.qO
    · rw [setF_ne e]
      exact H.dq s' ha' (hT.resolve_left e)
theorem FlM.skip (H : FlM W n G M O hh wt q h T) {s : Nat} (h0 : O s ≠ 0) : FlM W n G M O hh wt q h (fun j => j = s ∨ T j) :=
  ⟨H.bd, H.keep, H.root, H.seed, H.wait, H.low, H.done, H.few, H.qn, H.qO, H.qh, fun s' ha hT => by
    rcases hT with rfl | hT
    · exact h0
    · exact H.dq s' ha hT⟩
theorem FlM.close (H : FlM W n G M O hh wt q h T) (hT : ∀ s, adj W n q s → T s) : FlI W n G M O hh wt h :=
  ⟨H.bd, H.keep, H.root, H.seed, H.wait, H.low, fun q' hq' hO => by
    by_cases e : q' = q
    · subst e
      exact .inr fun s ha => by
        have h1 := H.dq s ha (hT s ha)
        have h2 := H.low s ha.2.1 h1
        rw [H.qh]
        exact ⟨h1, h2⟩
    · exact H.done q' hq' hO e, by have := H.few; omega⟩
theorem FlM.mono {T' : Nat → Prop} (H : FlM W n G M O hh wt q h T) (hT : ∀ s, T' s → T s) : FlM W n G M O hh wt q h T' :=
  ⟨H.bd, H.keep, H.root, H.seed, H.wait, H.low, H.done, H.few, H.qn, H.qO, H.qh, fun s ha hs => H.dq s ha (hT s hs)⟩
/-- At the end all have a mark, and their heights are the least ones. -/
theorem FlI.fin (H : FlI W n G M O hh [] L) {r : Nat} (hr : r < n) (hM : M r ≠ 0) (hc : ∀ i, i < n → ∃ k, Way W n G (fun j => j = r) k i) :
    (∀ i, i < n → O i ≠ 0) ∧ (∀ i k j, i < n → j < n → M j ≠ 0 → Way W n G (fun a => a = j) k i → hh i ≤ k) := by
  have dn : ∀ q, q < n → O q ≠ 0 → ∀ s, adj W n q s → O s ≠ 0 ∧ hh s ≤ max (G s) (hh q) := fun q hq hO => by
    rcases H.done q hq hO with ⟨p, hp, _⟩ | h
    · cases hp
    · exact h
  refine ⟨fun i hi => ?_, fun i k j _ hj hMj w => ?_⟩
  · obtain ⟨k, w⟩ := hc i hi
    clear hi
    induction w with
    | start i hi hF hG => rw [hF, H.keep r hr hM]; exact hM
    | step q s hq ha hG ih => exact (dn q ha.1 ih s ha).1
  · have key : O i ≠ 0 ∧ hh i ≤ k := by
      induction w with
      | start i hi hF hG =>
        subst hF
        exact ⟨by rw [H.keep i hj hMj]; exact hMj, Int.le_trans (H.seed i hj hMj) hG⟩
      | step q s hq ha hG ih =>
        have hqn := ha.1
        obtain ⟨h1, h2⟩ := ih hqn
        obtain ⟨h3, h4⟩ := dn q hqn h1 s ha
        exact ⟨h3, by omega⟩
    exact key.2
/-- The start: the marks that are given wait. -/
theorem FlI.start (hb : ∀ i, i < n → 0 ≤ M i ∧ M i ≤ 9) (hG : ∀ i, i < n → 0 ≤ G i) (h1 : ∀ p ∈ wt, p.1 < n ∧ M p.1 ≠ 0 ∧ p.2 = G p.1) (h2 : ∀ i, i < n → M i ≠ 0 → ∃ p ∈ wt, p.1 = i) (h3 : wt.length ≤ cntM M n) : FlI W n G M M G wt 0 :=
  ⟨hb, fun _ _ _ => rfl, fun i hi hO => ⟨i, hi, hO, rfl, .start i hi rfl (Int.le_refl _)⟩, fun _ _ _ => Int.le_refl _, fun p hp => by
    obtain ⟨a, b, c⟩ := h1 p hp
    exact ⟨a, b, c.symm, by rw [c]; exact hG _ a⟩, fun i hi hO => by omega, fun q hq hO => .inl (h2 q hq hO), h3⟩
end
end Go.Proofs.Ytkamkjbllmgifaa
