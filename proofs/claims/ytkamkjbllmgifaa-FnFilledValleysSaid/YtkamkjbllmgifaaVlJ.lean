/- Valleys: the order of the pixels; which valleys are near; what a pixel more does. -/
import Derived.Test.YtkamkjbllmgifaaVlN
import Derived.Test.YtkamkjbllmgifaaVlR
namespace Go.Proofs.Ytkamkjbllmgifaa
open Go.RowKit
open Vl

theorem spG_spt (W k : Nat) : spG W k = (List.range k).map (spt W) := rfl
theorem own_spF {w : World} {base g n c : Nat} {L : List (Int × Int)} (h : w.ownsRow base 39 2 (.slice (some ⟨g, 0, none⟩) n c) n (spL L)) (d : Nat → Int × Int) (hd : ∀ i, i < n → L[i]? = some (d i)) : SpF w g n d := by
  refine ⟨(h.lt g rfl).2, fun i hi => ⟨?_, ?_⟩, fun k => h.frozenAt k⟩
  · rw [h.cellAt (i * 2) (by omega), spL_fst, hd i hi]; rfl
  · rw [h.cellAt (i * 2 + 1) (by omega), spL_snd, hd i hi]; rfl
/-- The sorted pixels are those of the reference's order. -/
theorem ord_eq {W H N : Nat} {G : Nat → Int} {d : Nat → Int × Int} (_hW : 0 < W) (_hN : N = W * H) (hG : ∀ i, i < N → 0 ≤ G i ∧ G i ≤ 99) (hm : Stb.Mv 0 N (spt W) d) (hs : Stb.Srt (fun x => G (plc W x)) (fun x => ((plc W x : Nat) : Int)) 0 N d) :
    (List.range N).map (fun k => plc W (d k)) = ordS G N 100 ∧ ∀ k, k < N → d k = spt W (plc W (d k)) ∧ plc W (d k) < N := by
  have h2 : ∀ k, k < N → d k = spt W (plc W (d k)) ∧ plc W (d k) < N := fun k hk => by
    obtain ⟨y, hy, e⟩ := hm.from (x := k) ⟨Nat.zero_le _, hk⟩
    rw [e, plc_spt]; exact ⟨rfl, hy.2⟩
  refine ⟨?_, h2⟩
  refine sorted_ext (r := ltP G) (ltP_irr G) (fun x y h => ltP_asym h) ?_ (ordS_pw G N 100) (fun x => ?_)
  · rw [List.pairwise_map]
    refine List.pairwise_lt_range.imp_of_mem fun {a b} ha hb hab => ?_
    rw [List.mem_range] at ha hb
    have := hs a b (Nat.zero_le _) hab hb
    unfold Stb.lx at this
    simp only at this
    unfold ltP
    omega
  · rw [List.mem_map, ordS_mem]
    constructor
    · rintro ⟨k, hk, rfl⟩
      rw [List.mem_range] at hk
      have := hG _ (h2 k hk).2
      exact ⟨(h2 k hk).2, this.1, by omega⟩
    · rintro ⟨hx, _, _⟩
      obtain ⟨y, hy, e⟩ := hm.to (x := x) ⟨Nat.zero_le _, hx⟩
      exact ⟨y, List.mem_range.2 hy.2, by rw [← e, plc_spt]⟩

theorem ord_pre {N : Nat} {G : Nat → Int} {o : Nat → Nat} (nb : Nat → List Nat) (h : (List.range N).map o = ordS G N 100) {k : Nat} (hk : k < N) :
    Ok N (fold nb G ((List.range k).map o)) ∧ (fold nb G ((List.range k).map o)).own (o k) = none ∧ fold nb G ((List.range (k + 1)).map o) = stepV (nb (o k)) (G (o k)) (o k) (fold nb G ((List.range k).map o)) ∧ 0 ≤ G (o k) ∧ o k < N ∧ (fold nb G ((List.range k).map o)).n ≤ N := by
  have hT : ∀ m, m ≤ N → (List.range m).map o = (ordS G N 100).take m := fun m hm => by
    rw [← h, ← List.map_take, List.take_range, Nat.min_eq_left hm]
  have hnd : (ordS G N 100).Nodup := ltP_nodup (ordS_pw G N 100)
  have hs : (List.range (k + 1)).map o = (List.range k).map o ++ [o k] := by rw [List.range_succ, List.map_append]; rfl
  have nd1 : ((List.range (k + 1)).map o).Nodup := by rw [hT (k + 1) hk]; exact hnd.sublist (List.take_sublist _ _)
  have nd0 : ((List.range k).map o).Nodup := by rw [hT k (by omega)]; exact hnd.sublist (List.take_sublist _ _)
  have mem : ∀ i, i ∈ (List.range k).map o → i < N ∧ 0 ≤ G i := fun i hi => by
    rw [hT k (by omega)] at hi
    have := (ordS_mem G N 100 i).1 (List.mem_of_mem_take hi)
    exact ⟨this.1, this.2.1⟩
  have mk : o k < N ∧ 0 ≤ G (o k) := by
    have : o k ∈ ordS G N 100 := by rw [← h]; exact List.mem_map.2 ⟨k, List.mem_range.2 hk, rfl⟩
    have := (ordS_mem G N 100 (o k)).1 this
    exact ⟨this.1, this.2.1⟩
  refine ⟨fold_ok nd0 mem, ?_, ?_, mk.2, mk.1, ?_⟩
  · cases ho : (fold nb G ((List.range k).map o)).own (o k) with
    | none => rfl
    | some v =>
      have h1 := (fold_own nb G ((List.range k).map o) (o k)).1 (by rw [ho]; rfl)
      rw [hs, List.nodup_append] at nd1
      exact absurd rfl (nd1.2.2 _ h1 _ (by simp))
  · rw [hs, fold_app]
  · have := fold_n nb G ((List.range k).map o)
    rw [List.length_map, List.length_range] at this
    omega
/-- A list without its repetitions, each at its first place. -/
def ddup (l : List Nat) : List Nat := l.foldl (fun acc v => if acc.contains v then acc else acc ++ [v]) []
theorem ddup_app (l : List Nat) (v : Nat) : ddup (l ++ [v]) = if (ddup l).contains v then ddup l else ddup l ++ [v] := by simp [ddup]
theorem ddup_facts (l : List Nat) : (ddup l).Nodup ∧ (∀ v, v ∈ ddup l ↔ v ∈ l) ∧ (ddup l).length ≤ l.length := by
  have G : ∀ m : List Nat, (ddup m.reverse).Nodup ∧ (∀ v, v ∈ ddup m.reverse ↔ v ∈ m) ∧ (ddup m.reverse).length ≤ m.length := by
    intro m
    induction m with
    | nil => exact ⟨List.nodup_nil, fun v => by simp [ddup], by simp [ddup]⟩
    | cons a r ih =>
      obtain ⟨i1, i2, i3⟩ := ih
      rw [List.reverse_cons, ddup_app]
      by_cases c : (ddup r.reverse).contains a = true
      · rw [if_pos c]
        have ha : a ∈ r := (i2 a).1 (by simpa using c)
        refine ⟨i1, fun v => ?_, by simp; omega⟩
        rw [i2, List.mem_cons]
        constructor
        · exact .inr
        · rintro (rfl | h)
          · exact ha
          · exact h
      · rw [if_neg c]
        have ha : ¬ a ∈ ddup r.reverse := by simpa using c
        refine ⟨?_, fun v => ?_, by simp; omega⟩
        · rw [List.nodup_append]
          exact ⟨i1, by simp, fun x hx y hy e => by
            have : y = a := by simpa using hy
            rw [e, this] at hx
            exact ha hx⟩
        · rw [List.mem_append, i2, List.mem_cons]
          simp [or_comm]
  have := G l.reverse
  simpa using this
/-- The valleys of the first neighbours of a place. -/
def nearQ (W H : Nat) (own : Nat → Option Nat) (qs : List (Int × Int)) : List Nat := qs.filterMap fun q => if inG W H q then own (plc W q) else none
theorem nearQ_near (W H i : Nat) (st : VS) : nearQ W H st.own (arL ((i % W : Nat) : Int) ((i / W : Nat) : Int)) = near st (nbN W H i) := by
  unfold nearQ near nbN
  rw [List.take_of_length_le (by simp [arL])]
  generalize arL ((i % W : Nat) : Int) ((i / W : Nat) : Int) = l
  induction l with
  | nil => rfl
  | cons q r ih =>
    by_cases c : inG W H q = true
    · rw [List.filterMap_cons, List.filter_cons, if_pos c, if_pos c, List.map_cons, List.filterMap_cons, ih]
    · rw [List.filterMap_cons, List.filter_cons, if_neg c, if_neg c, ih]
theorem nearQ_take {W H : Nat} {own : Nat → Option Nat} {qs : List (Int × Int)} {j : Nat} (h : j < qs.length) : nearQ W H own (qs.take (j + 1)) = nearQ W H own (qs.take j) ++ (if inG W H qs[j] then own (plc W qs[j]) else none).toList := by
  unfold nearQ
  rw [List.take_succ_eq_append_getElem h, List.filterMap_append]
  congr 1

theorem own_ptF {w : World} {base g n c : Nat} {e : TypeId} {B : Nat → Nat} {nl : List Nat} (h : w.ownsRow base e 1 (.slice (some ⟨g, 0, none⟩) n c) n (nl.map fun v => ptV (B v))) (hl : nl.length = n) : PtF w g n B (fun i => nl.getD i 0) := by
  refine ⟨(h.lt g rfl).2, fun i hi => ?_, fun k => h.frozenAt k⟩
  rw [h.cellAt i (by omega)]
  simp [List.getD_eq_getElem?_getD, List.getElem?_eq_getElem (show i < nl.length by omega), ptV]
theorem zeroPt (w : World) : (zeroValue 65).run Try.prog w = .ok (.pointer none) w := by kernel_rfl
theorem contains_B {B : Nat → Nat} {nl : List Nat} {n ln v : Nat} (inj : ∀ a b, a < n → b < n → B a = B b → a = b) (hl : nl.length = ln) (hn : ∀ u ∈ nl, u < n) (hv : v < n) : nl.contains v = true ↔ ∃ i, i < ln ∧ B (nl.getD i 0) = B v := by
  rw [List.contains_iff_mem]
  constructor
  · intro h
    obtain ⟨i, hi, e⟩ := List.mem_iff_getElem.1 h
    exact ⟨i, by omega, by rw [List.getD_eq_getElem?_getD, List.getElem?_eq_getElem hi, Option.getD_some, e]⟩
  · rintro ⟨i, hi, e⟩
    have hi2 : i < nl.length := by omega
    rw [List.getD_eq_getElem?_getD, List.getElem?_eq_getElem hi2, Option.getD_some] at e
    rw [← inj _ _ (hn _ (List.getElem_mem hi2)) hv e]
    exact List.getElem_mem hi2
theorem exists_pl (d : Nat → Nat) (n : Nat) (h : ∀ i j, i < n → j < n → d i = d j → i = j) : ∃ pl : Nat → Int, Stb.Asc pl 0 n d := by
  classical
  refine ⟨fun v => if h : ∃ i, i < n ∧ d i = v then ((Classical.choose h : Nat) : Int) else 0, fun i j _ hij hj => ?_⟩
  have G : ∀ i, i < n → (if h : ∃ k, k < n ∧ d k = d i then ((Classical.choose h : Nat) : Int) else 0) = (i : Int) := fun i hi => by
    have hx : ∃ k, k < n ∧ d k = d i := ⟨i, hi, rfl⟩
    rw [dif_pos hx]
    have := Classical.choose_spec hx
    rw [h _ _ this.1 hi this.2]
  simp only [G i (by omega), G j hj]
  omega
theorem nodup_at {l : List Nat} (h : l.Nodup) {i j : Nat} (hi : i < l.length) (hj : j < l.length) (e : l[i] = l[j]) : i = j := by
  have hp := List.pairwise_iff_getElem.1 h
  rcases Nat.lt_trichotomy i j with c | c | c
  · exact absurd e (hp i j hi hj c)
  · exact c
  · exact absurd e.symm (hp j i hj hi c)
theorem srt_facts {nl : List Nat} {d : Nat → Nat} {pl : Nat → Int} {ln : Nat} (hl : nl.length = ln) (hm : Stb.Mv 0 ln (fun i => nl.getD i 0) d) (hs : Stb.Srt (fun v => ((v : Nat) : Int)) pl 0 ln d) :
    (∀ i j, i < j → j < ln → d i < d j) ∧ (∀ i, i < ln → d i ∈ nl) ∧ ∀ v ∈ nl, ∃ i, i < ln ∧ d i = v := by
  have G : ∀ i, (h : i < nl.length) → nl.getD i 0 = nl[i] := fun i h => by rw [List.getD_eq_getElem?_getD, List.getElem?_eq_getElem h]; rfl
  refine ⟨fun i j h1 h2 => ?_, fun i hi => ?_, fun v hv => ?_⟩
  · have := hs i j (Nat.zero_le _) h1 h2
    unfold Stb.lx at this
    simp only at this
    rcases this with h | ⟨h, h3⟩
    · omega
    · have e : d i = d j := by omega
      rw [e] at h3; omega
  · obtain ⟨y, hy, e⟩ := hm.from (x := i) ⟨Nat.zero_le _, hi⟩
    rw [e]
    show nl.getD y 0 ∈ nl
    rw [G y (by omega)]
    exact List.getElem_mem _
  · obtain ⟨k, hk, e⟩ := List.mem_iff_getElem.1 hv
    obtain ⟨y, hy, e2⟩ := hm.to (x := k) ⟨Nat.zero_le _, by omega⟩
    replace e2 : nl.getD k 0 = d y := e2
    rw [G k hk, e] at e2
    exact ⟨y, hy.2, e2.symm⟩
/-- The valleys that have joined: some of those behind the first. -/
def joinD (d : Nat → Nat) (j : Nat) : Nat → Bool := fun v => (List.range j).any fun t => d (t + 1) == v
theorem joinD_zero (d : Nat → Nat) : joinD d 0 = fun _ => false := by funext v; simp [joinD]
theorem joinD_succ (d : Nat → Nat) (j : Nat) : joinD d (j + 1) = fun v => joinD d j v || v == d (j + 1) := by
  funext v
  simp only [joinD, List.range_succ, List.any_append, List.any_cons, List.any_nil, Bool.or_false]
  congr 1
  rw [Bool.eq_iff_iff]
  simp only [beq_iff_eq]
  exact eq_comm
theorem joinD_iff {d : Nat → Nat} {j v : Nat} : joinD d j v = true ↔ ∃ t, t < j ∧ d (t + 1) = v := by simp [joinD]
/-- What holds when the list of near valleys is complete. -/
def JR (ps : List Nat) (L : Int) (i : Nat) (st st1 : VS) (nl : List Nat) : Prop :=
  (near st ps = [] ∧ st1 = grow L i st ∧ nl = [st.n]) ∨ (near st ps ≠ [] ∧ st1 = st ∧ nl = ddup (near st ps))
theorem JR.facts {ps : List Nat} {L : Int} {i N : Nat} {st st1 : VS} {nl : List Nat} (h : JR ps L i st st1 nl) (ho : Ok N st) (hi : st.own i = none) :
    Ok N st1 ∧ st1.own i = none ∧ nl ≠ [] ∧ nl.Nodup ∧ (∀ v ∈ nl, v < st1.n ∧ st1.dies v = -1) ∧ st1.n ≤ st.n + 1 ∧
    ∀ (s : Nat) (M : Nat → Bool), s ∈ nl → (∀ v ∈ nl, s ≤ v) → (∀ v, M v = true ↔ v ∈ nl ∧ v ≠ s) → stepV ps L i st = fin i s (Vl.part M s L st1) := by
  rcases h with ⟨h1, rfl, rfl⟩ | ⟨h1, rfl, rfl⟩
  · refine ⟨ho.grow L i, hi, by simp, by simp, fun v hv => ?_, Nat.le_refl _, fun s M hs _ hM => ?_⟩
    · have : v = st.n := by simpa using hv
      subst this
      simp [grow]
    · have : s = st.n := by simpa using hs
      subst this
      have : M = fun _ => false := by
        funext v
        cases hv : M v with
        | false => rfl
        | true =>
          have := (hM v).1 hv
          simp at this
      rw [this, part_none, stepV, if_pos h1]
  · obtain ⟨d1, d2, -⟩ := ddup_facts (near st1 ps)
    refine ⟨ho, hi, fun e => ?_, d1, fun v hv => ?_, by omega, fun s M hs hle hM => ?_⟩
    · have := (d2 _).2 (least_mem h1)
      rw [e] at this; cases this
    · have := near_lt ho ((d2 v).1 hv)
      exact ⟨this.1, this.2.1⟩
    · have e : s = least (near st1 ps) := by
        have h2 := least_le ((d2 s).1 hs)
        have h3 := hle _ ((d2 _).2 (least_mem h1))
        omega
      rw [stepV, if_neg h1, ← e]
      have : M = fun v => (near st1 ps).contains v && v != s := by
        funext v
        rw [Bool.eq_iff_iff, hM, d2]
        simp
      rw [this]
theorem JR.own {ps : List Nat} {L : Int} {i N : Nat} {st st1 : VS} {nl : List Nat} (h : JR ps L i st st1 nl) (ho : Ok N st) (hl : 1 < nl.length) {v : Nat} (hv : v ∈ nl) : ∃ q, st1.own q = some v := by
  rcases h with ⟨h1, rfl, rfl⟩ | ⟨h1, rfl, rfl⟩
  · simp at hl
  · obtain ⟨-, -, q, -, e⟩ := near_lt ho (((ddup_facts _).2.1 v).1 hv)
    exact ⟨q, e⟩
theorem spL_one : ∀ (L : List (Int × Int)), ∀ u ∈ spL L, u.oneCell' = true
  | [], u, h => by cases h
  | q :: r, u, h => by
    rcases List.mem_cons.1 h with rfl | h
    · rfl
    · rcases List.mem_cons.1 h with rfl | h
      · rfl
      · exact spL_one r u h
end Go.Proofs.Ytkamkjbllmgifaa
