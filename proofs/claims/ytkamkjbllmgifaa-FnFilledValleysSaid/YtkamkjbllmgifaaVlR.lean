/- Valleys: the reference's, walked. -/
import Derived.Test.YtkamkjbllmgifaaVlM
import Derived.Deep.CutRange
import Derived.Deep.DeepCutAuto
import Derived.Deep.RegionLaw
namespace Go.Proofs.Ytkamkjbllmgifaa
open Go.RowKit
open Vl

/-- The places of the neighbours. -/
def nbN (W H k : Nat) : List Nat := (((arL ((k % W : Nat) : Int) ((k / W : Nat) : Int)).take 4).filter (inG W H)).map (plc W)
theorem nbN_nearI (W H k : Nat) : nearI W H k = nums (nbN W H k) := by
  unfold nearI nearTo nbN nums
  rw [List.map_map]
  rfl
theorem nbN_len (W H k : Nat) : (nbN W H k).length ≤ 4 := by
  have := nearTo_len W H k 4
  have e := nbN_nearI W H k
  unfold nearI at e
  rw [e, nums_len] at this
  exact this
theorem nbN_adj {W H k s : Nat} (hW : 0 < W) (hk : k < W * H) : s ∈ nbN W H k ↔ adj W (W * H) k s := by
  constructor
  · intro h
    obtain ⟨s', e, ha⟩ := nearI_adj (W := W) (H := H) hW hk (v := (s : Int)) (by rw [nbN_nearI]; exact List.mem_map.2 ⟨s, h, rfl⟩)
    have : s' = s := by omega
    rw [← this]; exact ha
  · intro h
    have := nearI_all hW h
    rw [nbN_nearI] at this
    obtain ⟨s', hs, e⟩ := List.mem_map.1 this
    have : s' = s := by omega
    rw [← this]; exact hs
theorem nbN_lt {W H k s : Nat} (hW : 0 < W) (hk : k < W * H) (h : s ∈ nbN W H k) : s < W * H := ((nbN_adj hW hk).1 h).2.1

def leastI (l : List Nat) : Int := if l = [] then -1 else (least l : Int)
theorem least_app : ∀ (l : List Nat) (v : Nat), l ≠ [] → least (l ++ [v]) = min (least l) v
  | [x], v, _ => rfl
  | x :: y :: r, v, _ => by
    have := least_app (y :: r) v (by simp)
    simp only [List.cons_append] at this ⊢
    unfold least
    rw [this, Nat.min_assoc]
theorem leastI_app (l : List Nat) (v : Nat) : leastI (l ++ [v]) = if leastI l < 0 ∨ (v : Int) < leastI l then (v : Int) else leastI l := by
  unfold leastI
  rw [if_neg (by simp)]
  by_cases h : l = []
  · subst h; simp [least]
  · rw [if_neg h, least_app _ _ h]
    by_cases c : v < least l
    · rw [Nat.min_eq_right (by omega), if_pos (by omega)]
    · rw [Nat.min_eq_left (by omega), if_neg (by omega)]
theorem leastI_bd (l : List Nat) : -1 ≤ leastI l := by unfold leastI; split <;> omega
theorem near_take {st : VS} {ps : List Nat} {j : Nat} (h : j < ps.length) : near st (ps.take (j + 1)) = near st (ps.take j) ++ (st.own ps[j]).toList := by
  unfold near
  rw [List.take_succ_eq_append_getElem h, List.filterMap_append]
  congr 1

/-- The valleys of the first neighbours, but for the one that stays. -/
def joinM (st : VS) (ps : List Nat) (s j : Nat) : Nat → Bool := fun v => (near st (ps.take j)).contains v && v != s
theorem joinM_zero (st : VS) (ps : List Nat) (s : Nat) : joinM st ps s 0 = fun _ => false := by funext v; simp [joinM, near]
theorem joinM_self (st : VS) (ps : List Nat) (s j : Nat) : joinM st ps s j s = false := by simp [joinM]
theorem join_skip {st : VS} {ps : List Nat} {s j : Nat} {L : Int} (hj : j < ps.length) (h : (Vl.part (joinM st ps s j) s L st).own ps[j] = none ∨ (Vl.part (joinM st ps s j) s L st).own ps[j] = some s) : joinM st ps s (j + 1) = joinM st ps s j := by
  have hn := near_take (st := st) hj
  simp only [Vl.part] at h
  have cs : st.own ps[j] = none ∨ ∃ u, st.own ps[j] = some u := by cases st.own ps[j] <;> simp
  funext u
  unfold joinM
  rw [hn]
  rcases cs with ho | ⟨v, ho⟩
  · rw [ho]; simp
  · rw [ho] at h ⊢
    simp only [Option.map_some, reduceCtorEq, Option.some.injEq, false_or] at h
    by_cases hM : joinM st ps s j v = true
    · have h1 : v ∈ near st (ps.take j) := by
        unfold joinM at hM
        rw [Bool.and_eq_true] at hM
        simpa using hM.1
      by_cases e : u = v
      · subst e; simp [h1]
      · simp [e]
    · rw [if_neg hM] at h
      subst h
      by_cases e : u = v
      · subst e; simp
      · simp [e]
theorem join_take {st : VS} {ps : List Nat} {s j v : Nat} {L : Int} (hj : j < ps.length) (h : (Vl.part (joinM st ps s j) s L st).own ps[j] = some v) (hv : v ≠ s) : st.own ps[j] = some v ∧ joinM st ps s j v = false ∧ joinM st ps s (j + 1) = fun u => joinM st ps s j u || u == v := by
  have hn := near_take (st := st) hj
  simp only [Vl.part, Option.map_eq_some_iff] at h
  obtain ⟨u, hu, e⟩ := h
  by_cases hM : joinM st ps s j u = true
  · rw [if_pos hM] at e; exact absurd e.symm hv
  · rw [if_neg hM] at e
    subst e
    refine ⟨hu, by simpa using hM, ?_⟩
    funext x
    unfold joinM
    rw [hn, hu]
    by_cases e : x = u
    · subst e; simp [hv]
    · simp [e]
theorem nodup_le : ∀ {N : Nat} {l : List Nat}, l.Nodup → (∀ k ∈ l, k < N) → l.length ≤ N
  | 0, l, _, h => by
    cases l with
    | nil => simp
    | cons a r => exact absurd (h a List.mem_cons_self) (Nat.not_lt_zero _)
  | N + 1, l, hn, h => by
    have h1 := nodup_le (N := N) (l := l.erase N) (hn.erase _) (fun k hk => by
      have := (hn.mem_erase_iff).1 hk
      have := h k this.2
      omega)
    have h2 := List.length_erase (a := N) (l := l)
    by_cases c : N ∈ l
    · rw [if_pos c] at h2; omega
    · rw [if_neg c] at h2; omega
theorem pre_pw (num : Nat → Int) (N l i : Nat) : (ordS num N l ++ lev num l i).Pairwise (ltP num) := by
  rw [List.pairwise_append]
  refine ⟨ordS_pw num N l, lev_pw _ _ _, fun a ha b hb => ?_⟩
  rw [ordS_mem] at ha
  simp only [lev, List.mem_filter, beq_iff_eq] at hb
  exact .inl (by omega)
theorem pre_mem {num : Nat → Int} {N l i k : Nat} (hi : i ≤ N) (h : k ∈ ordS num N l ++ lev num l i) : k < N ∧ 0 ≤ num k ∧ (num k < l ∨ (num k = l ∧ k < i)) := by
  rw [List.mem_append, ordS_mem] at h
  rcases h with h | h
  · omega
  · simp only [lev, List.mem_filter, List.mem_range, beq_iff_eq] at h
    omega
/-- What is known of the state ahead of a pixel. -/
theorem pre_ok (nb : Nat → List Nat) (num : Nat → Int) (N l i : Nat) (hi : i < N) (he : num i = (l : Int)) :
    Ok N (fold nb num (ordS num N l ++ lev num l i)) ∧ (fold nb num (ordS num N l ++ lev num l i)).own i = none ∧ fold nb num (ordS num N l ++ lev num l (i + 1)) = stepV (nb i) (l : Int) i (fold nb num (ordS num N l ++ lev num l i)) := by
  refine ⟨fold_ok (ltP_nodup (pre_pw num N l i)) (fun k hk => ⟨(pre_mem (by omega) hk).1, (pre_mem (by omega) hk).2.1⟩), ?_, ?_⟩
  · have := fold_own nb num (ordS num N l ++ lev num l i) i
    cases ho : (fold nb num (ordS num N l ++ lev num l i)).own i with
    | none => rfl
    | some v =>
      rw [ho] at this
      have := pre_mem (N := N) (by omega) (this.1 rfl)
      omega
  · rw [lev_succ, if_pos he, ← List.append_assoc, fold_app, he]
theorem SV.congr {b0 N gb og oc : Nat} {P : Nat → Nat × Nat} {Ls : Nat → List Nat} {st st' : VS} {w : World} (h : SV b0 N gb og oc P Ls st w) (e1 : st'.n = st.n) (e2 : ∀ v, v < st.n → st'.born v = st.born v ∧ st'.place v = st.place v ∧ st'.dies v = st.dies v) (e3 : ∀ q, q < N → st'.own q = st.own q) (e4 : ∀ v, v < st.n → ∀ q, st'.mem v q = true ↔ st.mem v q = true) : SV b0 N gb og oc P Ls st' w := by
  refine ⟨?_, ?_, ?_, ?_, h.d1, ?_, ?_⟩
  · have : ofL N st'.own = ofL N st.own := by
      unfold ofL
      refine List.map_congr_left fun q hq => ?_
      rw [List.mem_range] at hq
      rw [e3 q hq]
    rw [this]; exact h.fo
  · have : row4 st'.n (vc st' P Ls) = row4 st.n (vc st P Ls) := by
      rw [e1]
      refine row4_congr fun v hv k _ => ?_
      obtain ⟨a, b, c⟩ := e2 v hv
      unfold vc
      rw [a, b, c]
    rw [this, e1]; exact h.out
  · rw [e1]; exact h.set
  · rw [e1]; exact fun v hv => ⟨(h.mem v hv).1, fun q => ((h.mem v hv).2 q).trans (e4 v hv q).symm⟩
  · rw [e1]; exact h.d2
  · rw [e1]; exact h.d3
theorem SV.cell {b0 N gb og oc : Nat} {P : Nat → Nat × Nat} {Ls : Nat → List Nat} {st : VS} {w : World} (h : SV b0 N gb og oc P Ls st w) {v k : Nat} (hv : v < st.n) (hk : k < 4) : w.cell? ⟨og, v * 4 + k, none⟩ = some (vc st P Ls v k) :=
  (h.out.cellAt (v * 4 + k) (by omega)).trans (row4_get _ hv hk)
theorem SV.bd {b0 N gb og oc : Nat} {P : Nat → Nat × Nat} {Ls : Nat → List Nat} {st : VS} {w : World} (h : SV b0 N gb og oc P Ls st w) (hlt : ∀ v q, v < st.n → st.mem v q = true → q < N) {v : Nat} (hv : v < st.n) : (∀ q ∈ Ls v, q < N) ∧ (Ls v).length ≤ N := by
  have h1 : ∀ q ∈ Ls v, q < N := fun q hq => hlt v q hv (((h.mem v hv).2 q).1 hq)
  exact ⟨h1, nodup_le (h.mem v hv).1 h1⟩
set_option maxRecDepth 100000 in
set_option maxHeartbeats 8000000 in
theorem valleysS_any (W H n : Nat) (An : Option Addr) (cn : Nat) (N : List Int) (w : World) (hW1 : 0 < W) (hW : W ≤ 16) (hH : H ≤ 16) (hn : n = W * H) (hN : N.length = n)
    (hb : ∀ i (h : i < N.length), 0 ≤ N[i] ∧ N[i] ≤ 99) (rN : Rd w An (ints N)) (G : Nat → Int) (hG : ∀ i, i < n → N.getD i 0 = G i) :
    Calls Try.prog 63 #[.int .i64 W, .slice An n cn] w fun e w' => ∃ gb og oc P Ls, e = .returned (.slice (some ⟨og, 0, none⟩) (fold (nbN W H) G (ordS G n 100)).n oc) ∧ SV w.heap.size n gb og oc P Ls (fold (nbN W H) G (ordS G n 100)) w' ∧ Below w.heap.size w w' := by
  have hnl : n ≤ 256 := by rw [hn]; exact Nat.le_trans (Nat.mul_le_mul hW hH) (by decide)
  have NA := Lib.hid (fun k (hk : k < n) V => (show Calls Try.prog 96 #[.int .i64 W, .int .i64 n, .int .i64 k] V fun e w' => ∃ A c, e = .returned (.slice A (nbN W H k).length c) ∧ w'.ownsRow V.heap.size 2 1 (.slice A (nbN W H k).length c) (nbN W H k).length (ints (nums (nbN W H k))) ∧ Below V.heap.size V w' by
    have := near_any W H n k V hW1 hW hH hn hk
    rw [nbN_nearI, nums_len] at this
    exact this))
  have NB := Lib.hid (fun k (hk : k < n) s (hs : s ∈ nbN W H k) => (show s < n by rw [hn]; exact nbN_lt hW1 (by rw [← hn]; exact hk) hs))
  have NL := Lib.hid (fun k => nbN_len W H k)
  have GB : Hid (∀ i, i < n → 0 ≤ G i ∧ G i ≤ 99) := by
    intro i hi
    rw [← hG i hi, List.getD_eq_getElem?_getD, List.getElem?_eq_getElem (by omega)]
    exact hb i (by omega)
  have NC := Lib.hid (fun V (hV : Below w.heap.size w V) i (hi : i < n) => (show ∃ g, An = some ⟨g, 0, none⟩ ∧ g < w.heap.size ∧ V.cell? ⟨g, i, none⟩ = some (.int .i64 (G i)) by
    obtain ⟨g, e, hg, hc⟩ := rN (by simp [ints]; omega)
    refine ⟨g, e, hg, ?_⟩
    rw [← hG i hi, List.getD_eq_getElem?_getD, List.getElem?_eq_getElem (by omega)]
    have := (hV.cell (p := ⟨g, i, none⟩) hg).trans (hc i (by simp [ints]; omega))
    simpa [ints] using this))
  obtain ⟨i0, hi0, hz0, hz1, hz2⟩ := info_parts intInfo
  have hmk : ∀ V : World, (Instr.makeSlice 34 (.int .i64 (n : Int)) (.int .i64 (n : Int))).run Try.prog V = .ok (.slice (some ⟨V.heap.size, 0, none⟩) n n) (V.alloc (.cells (intC (fL (fun _ => 0) n)) 2)) := by
    intro V
    have h := run_make (P := Try.prog) V 34 2 i0 _ Try.underlying34 hi0 hz0 .i64 .i64 (n : Int) (n : Int) (by omega) (Int.le_refl _) (by rw [hz2]; omega) (by omega)
    rw [h, hz1, Int.toNat_natCast]
    show Result.ok _ (V.alloc (.cells (madeCells #[.int .i64 0] (n * 1)) _)) = _
    rw [Nat.mul_one, intC_made]
  have S0 : SV w.heap.size n (w.heap.size + 1) w.heap.size 0 (fun _ => (0, 0)) (fun _ => []) { VS.start with own := fun q => if q < 0 then none else some 0 } ((w.alloc (.cells #[] 89)).alloc (.cells (intC (fL (fun _ => 0) n)) 2)) := by
    refine ⟨?_, ?_, fun v hv => by simp [VS.start] at hv, fun v hv => by simp [VS.start] at hv, by omega, fun v hv => by simp [VS.start] at hv, fun u v hu => by simp [VS.start] at hu⟩
    · have := World.ownsRow_lit (e := 2) (size := 1) (w.alloc (.cells #[] 89)) (intC (fL (fun _ => 0) n)) n (base := w.heap.size) (by simp) (by unfold maxLen; omega) (by simp [intC, ints, fL])
      have e : ofL n (fun q => if q < 0 then none else some 0) = fL (fun _ => (0 : Int)) n := by simp [ofL, fL, ofI]
      show World.ownsRow _ _ _ _ _ _ (ints (ofL n (fun q => if q < 0 then none else some 0)))
      rw [e]
      simpa [intC] using this
    · exact (World.ownsRow_lit (e := 89) (size := 4) w #[] 0 (Nat.le_refl _) (by decide) rfl).alloc _
  have B0 : Below w.heap.size w ((w.alloc (.cells #[] 89)).alloc (.cells (intC (fL (fun _ => 0) n)) 2)) := Ext.more (Ext.more (Ext.refl _) _) _
  clear hi0 hz0 hz1 hz2 hb rN hN hn hG
  go_enter Try.func63, Try.ntmps63
  go_wp2_with fail
  generalize (w.alloc (.cells #[] 89)).alloc (.cells (intC (fL (fun _ => 0) n)) 2) = w1 at *
  clear hmk
  go_loopw [25] (fun i wr => ∃ k : Nat, k ≤ n ∧ i = .int .i64 k ∧ SV w.heap.size n (w.heap.size + 1) w.heap.size 0 (fun _ => (0, 0)) (fun _ => []) { VS.start with own := fun q => if q < k then none else some 0 } wr ∧ Below w.heap.size w wr) (fun i _ => n - (intOf i).toNat)
  case atStart => exact ⟨0, Nat.zero_le _, rfl, S0, B0⟩
  case round =>
    obtain ⟨k, hk, rfl, hS, hB⟩ := hrel
    clear S0 B0
    by_cases hlt : k < n
    ·
      have c0 := hS.fo.cellAt k (by omega)
      rw [ofL_get _ hlt] at c0
      have f0 := hS.fo.frozenAt k
      have hl := hS.lts.1.2
      have HS : Hid (∀ V, V = wr.setCell ⟨w.heap.size + 1, k, none⟩ (.int .i64 (-1)) → SV w.heap.size n (w.heap.size + 1) w.heap.size 0 (fun _ => (0, 0)) (fun _ => []) { VS.start with own := fun q => if q < k + 1 then none else some 0 } V) := by
        rintro V rfl
        have h1 := hS.setOf hlt none
        refine h1.congr rfl (fun v hv => by simp [VS.start] at hv) (fun q hq => ?_) (fun v hv => by simp [VS.start] at hv)
        show (if q < k + 1 then none else some 0) = if q = k then none else if q < k then none else some 0
        by_cases e : q = k
        · rw [if_pos e, if_pos (by omega)]
        · rw [if_neg e]
          by_cases e2 : q < k
          · rw [if_pos e2, if_pos (by omega)]
          · rw [if_neg e2, if_neg (by omega)]
      have HB : Hid (∀ V, V = wr.setCell ⟨w.heap.size + 1, k, none⟩ (.int .i64 (-1)) → Below w.heap.size w V) := by
        rintro V rfl
        exact hB.grown (hS.setOf hlt none |>.fo |> fun _ => (hS.fo.stored k (.int .i64 (-1))).2) hB.size (fun z hz => by have := Option.some.inj hz; omega)
      have i0 : (0 : Int) ≤ (k : Int) := by omega
      have i1 : (k : Int) < (n : Int) := by omega
      clear hS hB
      go_wp2_with fail
      go_roundw
      case rel => exact ⟨k + 1, by omega, by go_num, HS.out _ rfl, HB.out _ rfl⟩
      case measure => simp [intOf]; omega
    · obtain rfl : n = k := by omega
      have T0 : SV w.heap.size n (w.heap.size + 1) w.heap.size 0 (fun _ => (0, 0)) (fun _ => []) (fold (nbN W H) G (ordS G n 0)) wr := by
        refine hS.congr rfl (fun v hv => by simp [VS.start] at hv) (fun q hq => ?_) (fun v hv => by simp [VS.start] at hv)
        show none = if q < n then none else some 0
        rw [if_pos hq]
      obtain ⟨w3, rfl⟩ : ∃ w3 : World, w3 = wr := ⟨_, rfl⟩
      clear hS
      go_wp2_with fail
      go_loopw [5, 9] (fun ov lv wr => ∃ (l og oc : Nat) (P : Nat → Nat × Nat) (Ls : Nat → List Nat) (m : Nat), l ≤ 100 ∧ lv = .int .i64 l ∧ ov = .slice (some ⟨og, 0, none⟩) m oc ∧ Hid ((fold (nbN W H) G (ordS G n l)).n = m) ∧ SV w.heap.size n (w.heap.size + 1) og oc P Ls (fold (nbN W H) G (ordS G n l)) wr ∧ Below w.heap.size w wr) (fun _ lv _ => 100 - (intOf lv).toNat)
      case atStart => exact ⟨0, _, _, _, _, 0, Nat.zero_le _, rfl, rfl, rfl, T0, hB⟩
      case round =>
        obtain ⟨l, og, oc, P, Ls, m, hl, rfl, rfl, hm, hS, hB2⟩ := hrel
        clear T0 hB
        by_cases hl100 : l < 100
        · have t0 : (l : Int) ≤ 99 := by omega
          have U0 : SV w.heap.size n (w.heap.size + 1) og oc P Ls (fold (nbN W H) G (ordS G n l ++ lev G l 0)) wr := by simpa [lev] using hS
          have m0 : Hid ((fold (nbN W H) G (ordS G n l ++ lev G l 0)).n = m) := by simpa [lev, Hid] using hm
          obtain ⟨w4, rfl⟩ : ∃ w4 : World, w4 = wr := ⟨_, rfl⟩
          clear hS hm
          go_wp2_with fail
          go_loopw [5, 10] (fun ov iv wr => ∃ (i og oc : Nat) (P : Nat → Nat × Nat) (Ls : Nat → List Nat) (m : Nat), i ≤ n ∧ iv = .int .i64 i ∧ ov = .slice (some ⟨og, 0, none⟩) m oc ∧ Hid ((fold (nbN W H) G (ordS G n l ++ lev G l i)).n = m) ∧ SV w.heap.size n (w.heap.size + 1) og oc P Ls (fold (nbN W H) G (ordS G n l ++ lev G l i)) wr ∧ Below w.heap.size w wr) (fun _ iv _ => n - (intOf iv).toNat)
          case atStart => exact ⟨0, og, oc, P, Ls, m, Nat.zero_le _, rfl, rfl, m0, U0, hB2⟩
          case round =>
            obtain ⟨i, og, oc, P, Ls, m, hi, rfl, rfl, hm, hS, hB⟩ := hrel
            clear U0 m0 hB2
            by_cases hin : i < n
            · obtain ⟨gN, eN, hgN, c0⟩ := NC.out wr hB i hin
              subst eN
              have i0 : (0 : Int) ≤ (i : Int) := by omega
              have i1 : (i : Int) < (n : Int) := by omega
              have wi : IntKind.i64.wrap ((i : Int) + 1) = ((i + 1 : Nat) : Int) := by rw [IntWalk.i64_in _ (by omega)]; simp
              by_cases hne : G i = (l : Int)
              · have tb : ((l : Int) != (l : Int)) = false := by simp
                rw [hne] at c0
                obtain ⟨OK1, own1, ST⟩ := pre_ok (nbN W H) G n l i hin hne
                have MN : Hid (m ≤ n) := by
                  have h1 := fold_n (nbN W H) G (ordS G n l ++ lev G l i)
                  have h2 := nodup_le (N := n) (ltP_nodup (pre_pw G n l i)) (fun k hk => (pre_mem (by omega) hk).1)
                  have h3 := Nat.le_trans h1 h2
                  rw [hm.out] at h3
                  exact h3
                have NEXT : Hid (∀ og oc P Ls V, SV w.heap.size n (w.heap.size + 1) og oc P Ls (stepV (nbN W H i) (l : Int) i (fold (nbN W H) G (ordS G n l ++ lev G l i))) V → SV w.heap.size n (w.heap.size + 1) og oc P Ls (fold (nbN W H) G (ordS G n l ++ lev G l (i + 1))) V) := fun og oc P Ls V h => by rw [ST]; exact h
                have NEXN : Hid ((fold (nbN W H) G (ordS G n l ++ lev G l (i + 1))).n = (stepV (nbN W H i) (l : Int) i (fold (nbN W H) G (ordS G n l ++ lev G l i))).n) := by rw [Hid, ST]
                have NAI := Lib.hid (NA.out i hin)
                have NBI := Lib.hid (NB.out i hin)
                have NLI := NL.out i
                generalize nbN W H i = ps at *
                generalize fold (nbN W H) G (ordS G n l ++ lev G l i) = st at *
                have HOK := Lib.hid (And.intro OK1 own1)
                clear OK1 own1 ST hne
                have HS := Lib.hid hS
                have LTS := Lib.hid hS.lts
                have HB := Lib.hid hB
                obtain ⟨pn, hpn⟩ : ∃ pn, ps.length = pn := ⟨_, rfl⟩
                have HPN := Lib.hid hpn
                rw [hpn] at NAI NLI
                clear hS hB hpn
                go_wp2_with (go_at_call 96; refine (NAI.out _).mono ?_; rintro e w5 ⟨A5, c5, rfl, hn5, hb5⟩)
                have HS5 := Lib.hid (HS.out.ext hb5)
                have HB5 := Lib.hid (Ext.then_ HB.out hb5)
                have HN5 := Lib.hid hn5
                have z5 : Hid (wr.heap.size ≤ w5.heap.size) := hb5.size
                clear HS HB c0 hn5 hb5
                have PC : Hid (∀ j (hj : j < pn), ∃ ga, A5 = some ⟨ga, 0, none⟩ ∧ wr.heap.size ≤ ga ∧ w5.cell? ⟨ga, j, none⟩ = some (.int .i64 ((ps[j]'(by rw [HPN.out]; exact hj) : Nat) : Int))) := fun j hj => by
                  obtain ⟨ga, cap, e⟩ := ownsForm HN5.out (by omega)
                  simp only [Value.slice.injEq] at e
                  obtain ⟨rfl, -, rfl⟩ := e
                  refine ⟨ga, rfl, (HN5.out.lt ga rfl).1, ?_⟩
                  rw [HN5.out.cellAt j (by omega), nums_get (by rw [HPN.out]; exact hj)]
                have FC := Lib.hid (fun q (hq : q < n) => (HS5.out.fo.cellAt q (by omega)).trans (ofL_get _ hq))
                go_wp2_with fail
                go_loopw [12, 53] (fun sv jv wx => ∃ j : Nat, j ≤ pn ∧ jv = .int .i64 j ∧ sv = .int .i64 (leastI (near st (ps.take j))) ∧ w5 = wx) (fun _ jv _ => pn - (intOf jv).toNat)
                case atStart => exact ⟨0, Nat.zero_le _, rfl, rfl, rfl⟩
                case round =>
                  obtain ⟨j, hj, rfl, rfl, rfl⟩ := hrel
                  by_cases hjn : j < pn
                  ·
                    obtain ⟨ga, eA, -, c1⟩ := PC.out j hjn
                    subst eA
                    have NT := Lib.hid (near_take (st := st) (ps := ps) (j := j) (by rw [HPN.out]; exact hjn))
                    have pb := NBI.out (ps[j]'(by rw [HPN.out]; exact hjn)) (List.getElem_mem _)
                    generalize (ps[j]'(by rw [HPN.out]; exact hjn)) = p at *
                    have c2 := FC.out p pb
                    have j0 : (0 : Int) ≤ (j : Int) := by omega
                    have j1 : (j : Int) < (pn : Int) := by omega
                    have p0 : (0 : Int) ≤ (p : Int) := by omega
                    have p1 : (p : Int) < (n : Int) := by omega
                    have wj : IntKind.i64.wrap ((j : Int) + 1) = ((j + 1 : Nat) : Int) := by rw [IntWalk.i64_in _ (by omega)]; simp
                    cases ho : st.own p with
                    | none =>
                      rw [ho] at c2 NT
                      have NX : Hid (leastI (near st (ps.take (j + 1))) = leastI (near st (ps.take j))) := by rw [Hid, NT.out]; simp
                      generalize leastI (near st (ps.take j)) = lj at *
                      have c3 : w5.cell? ⟨w.heap.size + 1, p, none⟩ = some (.int .i64 (-1)) := c2
                      clear c2 NT FC PC ho
                      go_wp2_with fail
                      exact ⟨⟨j + 1, by omega, by go_num, by rw [NX.out], by simp⟩, by simp [intOf]; omega⟩
                    | some v =>
                      rw [ho] at c2 NT
                      have NX : Hid (leastI (near st (ps.take (j + 1))) = if leastI (near st (ps.take j)) < 0 ∨ (v : Int) < leastI (near st (ps.take j)) then (v : Int) else leastI (near st (ps.take j))) := by rw [Hid, NT.out]; exact leastI_app _ _
                      have c3 : w5.cell? ⟨w.heap.size + 1, p, none⟩ = some (.int .i64 (v : Int)) := c2
                      generalize leastI (near st (ps.take j)) = lj at *
                      have v0 : (0 : Int) ≤ (v : Int) := by omega
                      clear c2 NT FC PC ho
                      by_cases q1 : lj < 0
                      · have NX2 : Hid (leastI (near st (ps.take (j + 1))) = (v : Int)) := by rw [Hid, NX.out, if_pos (.inl q1)]
                        clear NX
                        go_wp2_with fail
                        exact ⟨⟨j + 1, by omega, by go_num, by rw [NX2.out], by simp⟩, by simp [intOf]; omega⟩
                      · by_cases q2 : (v : Int) < lj
                        · have NX2 : Hid (leastI (near st (ps.take (j + 1))) = (v : Int)) := by rw [Hid, NX.out, if_pos (.inr q2)]
                          clear NX
                          go_wp2_with fail
                          exact ⟨⟨j + 1, by omega, by go_num, by rw [NX2.out], by simp⟩, by simp [intOf]; omega⟩
                        · have NX2 : Hid (leastI (near st (ps.take (j + 1))) = lj) := by rw [Hid, NX.out, if_neg (by omega)]
                          clear NX
                          go_wp2_with fail
                          exact ⟨⟨j + 1, by omega, by go_num, by rw [NX2.out], by simp⟩, by simp [intOf]; omega⟩
                  · obtain rfl : pn = j := by omega
                    have TK : Hid (ps.take pn = ps) := List.take_of_length_le (by rw [HPN.out]; exact Nat.le_refl _)
                    rw [TK.out]
                    by_cases he : near st ps = []
                    · have e1 : leastI (near st ps) = -1 := by rw [he]; rfl
                      rw [e1]
                      clear e1
                      have SN : Hid (stepV ps (l : Int) i st = fin i st.n (grow (l : Int) i st)) := by rw [Hid, stepV, if_pos he]
                      have c1 := FC.out i hin
                      have f1 := HS5.out.fo.frozenAt i
                      have lg := HS5.out.lts.1.2
                      have hm0 := hm.out
                      have S6 : Hid (∀ V, V = w5.setCell ⟨w.heap.size + 1, i, none⟩ (.int .i64 ((m : Nat) : Int)) → SV w.heap.size n (w.heap.size + 1) og oc P Ls { st with own := fun p => if p = i then some st.n else st.own p } V) := by
                        rintro V rfl
                        have h := HS5.out.setOf hin (some st.n)
                        rw [show ofI (some st.n) = ((m : Nat) : Int) by rw [← hm0]; rfl] at h
                        exact h
                      have B6 : Hid (∀ V, V = w5.setCell ⟨w.heap.size + 1, i, none⟩ (.int .i64 ((m : Nat) : Int)) → Below w.heap.size w V) := by
                        rintro V rfl
                        exact HB5.out.grown (HS5.out.fo.stored i _).2 HB5.out.size (fun z hz => by have := Option.some.inj hz; omega)
                      clear FC PC hm0 he
                      go_upto_region 27 with fail
                      obtain ⟨w6, hw6⟩ : ∃ w6, w6 = w5.setCell ⟨w.heap.size + 1, i, none⟩ (.int .i64 ((m : Nat) : Int)) := ⟨_, rfl⟩
                      rw [← hw6]
                      have S6' := Lib.hid (S6.out w6 hw6)
                      have B6' := Lib.hid (B6.out w6 hw6)
                      clear hw6 S6 B6 c1 f1 lg
                      have O6 := S6'.out.out
                      have hm0 := hm.out
                      change w6.ownsRow w.heap.size 89 4 (.slice (some ⟨og, 0, none⟩) st.n oc) st.n (row4 st.n (vc st P Ls)) at O6
                      rw [hm0] at O6
                      have zb := B6'.out.size
                      have lo := (S6'.out.lts).2.1
                      have mn := MN.out
                      clear hm0
                      generalize hrw : row4 m (vc st P Ls) = rws at *
                      have HRW := Lib.hid hrw
                      clear hrw
                      go_wp2_with (at_builtin; refine wpList_app valT (by rfl) _ _ (by rfl) w.heap.size (.slice (some ⟨og, 0, none⟩) m oc) m rws (by rfl) ((O6.alloc _).alloc _) (w6.heap.size + 1) #[.int .i64 (l : Int), .int .i64 (i : Int), .int .i64 (-1), .slice (some ⟨w6.heap.size, 0, none⟩) 1 1] (by rfl) (by have := heap_alloc_new (w6.alloc (.cells #[.int .i64 (i : Int)] 2)) (.cells #[.int .i64 (l : Int), .int .i64 (i : Int), .int .i64 (-1), .slice (some ⟨w6.heap.size, 0, none⟩) 1 1] 89); simpa using this) rfl (by simp [Value.oneCell']) (by omega) (by simp; omega) ?_; intro g7 c7 w7 own7 hg7 hat7 hlt7)
                      have hg8 : World.grownBy _ w7 (some og) := hg7
                      have S7 : Hid (SV w.heap.size n (w.heap.size + 1) g7 c7 (updF P st.n (w6.heap.size, 1)) (updF Ls st.n [i]) (fin i st.n (grow (l : Int) i st)) w7) := by
                        have OS : w7.ownsRow w.heap.size 2 1 (.slice (some ⟨w6.heap.size, 0, none⟩) 1 1) 1 [.int .i64 (i : Int)] := by
                          have a1 := World.ownsRow_lit (e := 2) (size := 1) w6 #[.int .i64 (i : Int)] 1 (base := w.heap.size) zb (by decide) rfl
                          exact (a1.alloc _).kept hg8 (.inr (fun e => by have := Option.some.inj e; simp at this; omega))
                        refine S6'.out.born ?_ OS (Nat.le_refl _) (Ext.more (Ext.more (Ext.refl _) _) _) hg8 hat7 (by simp; omega)
                        have := own7
                        rw [← HRW.out, ← hm.out] at this
                        exact this
                      have B7 : Hid (Below w.heap.size w w7) := (Ext.more (Ext.more B6'.out _) _).grown hg8 (by simp; omega) (fun z hz => by have := Option.some.inj hz; omega)
                      have M7 : Hid ((fold (nbN W H) G (ordS G n l ++ lev G l (i + 1))).n = m + 1) := by rw [Hid, NEXN.out, SN.out]; show st.n + 1 = m + 1; rw [hm.out]
                      rw [SN.out] at NEXT
                      clear own7 hg7 hg8 hat7 O6 S6' B6' HRW lo zb
                      go_wp2_with fail
                      go_roundw
                      case rel => exact ⟨i + 1, g7, c7, _, _, m + 1, by omega, by go_num, rfl, M7.out, NEXT.out _ _ _ _ _ S7.out, B7.out⟩
                      case measure => simp [intOf]; omega
                    · have s0 : leastI (near st ps) = ((least (near st ps) : Nat) : Int) := by rw [leastI, if_neg he]
                      have SN : Hid (stepV ps (l : Int) i st = fin i (least (near st ps)) (Vl.part (fun v => (near st ps).contains v && v != least (near st ps)) (least (near st ps)) (l : Int) st)) := by rw [Hid, stepV, if_neg he]
                      obtain ⟨sn, sd, -⟩ := near_lt HOK.out.1 (least_mem he)
                      have pn0 : 0 < pn := by
                        rw [← HPN.out]
                        cases ps with
                        | nil => exact absurd rfl he
                        | cons a r => simp
                      rw [s0]
                      have JE : Hid (joinM st ps (least (near st ps)) pn = fun v => (near st ps).contains v && v != least (near st ps)) := by rw [Hid]; unfold joinM; rw [TK.out]
                      clear s0 he
                      generalize least (near st ps) = s at *
                      rw [← JE.out] at SN
                      clear JE TK FC PC
                      obtain ⟨ga, cap, e⟩ := ownsForm HN5.out pn0
                      simp only [Value.slice.injEq] at e
                      obtain ⟨rfl, -, rfl⟩ := e
                      obtain ⟨⟨l1, l2⟩, ⟨l3, l4⟩, l5⟩ := HS5.out.lts
                      have S0 : Hid (SV w.heap.size n (w.heap.size + 1) og oc P Ls (Vl.part (joinM st ps s 0) s (l : Int) st) w5) := by
                        rw [joinM_zero, part_none]; exact HS5.out
                      have hm0 := hm.out
                      have GA : Hid (wr.heap.size ≤ ga ∧ ga ≠ w.heap.size + 1 ∧ ga ≠ og ∧ ∀ v, v < m → (P v).1 ≠ ga) := by
                        obtain ⟨⟨k1, k2⟩, ⟨k3, k4⟩, k5⟩ := LTS.out
                        have k6 := (HN5.out.lt ga rfl).1
                        exact ⟨k6, by omega, by omega, fun v hv => by have := (k5 v (by rw [hm0]; exact hv)).2; omega⟩
                      have SNM : s < m := by rw [← hm0]; exact sn
                      have SD := Lib.hid sd
                      obtain ⟨wb, hwb⟩ : ∃ wb, wb = wr.heap.size := ⟨_, rfl⟩
                      have NEAR5 : Hid (w5.ownsRow wb 2 1 (.slice (some ⟨ga, 0, none⟩) pn c5) pn (ints (nums ps))) := by rw [Hid, hwb]; exact HN5.out
                      clear hwb
                      have s00 : (0 : Int) ≤ (s : Int) := by omega
                      have GN : Hid (n = n) := rfl
                      have OKJ : Hid (∀ j, Ok n (Vl.part (joinM st ps s j) s (l : Int) st)) := fun j => HOK.out.1.part sn sd (joinM_self _ _ _ _) (by omega)
                      have SKIP := Lib.hid (fun j (hj : j < pn) => join_skip (st := st) (ps := ps) (s := s) (j := j) (L := (l : Int)) (by rw [HPN.out]; exact hj))
                      have TAKE := Lib.hid (fun j v (hj : j < pn) => join_take (st := st) (ps := ps) (s := s) (j := j) (v := v) (L := (l : Int)) (by rw [HPN.out]; exact hj))
                      clear HS5 l1 l2 l3 l4 l5 hm0 sd LTS
                      go_wp2_with fail
                      go_loopw [93] (fun jv wx => ∃ (j : Nat) (P : Nat → Nat × Nat) (Ls : Nat → List Nat), j ≤ pn ∧ jv = .int .i64 j ∧ SV w.heap.size n (w.heap.size + 1) og oc P Ls (Vl.part (joinM st ps s j) s (l : Int) st) wx ∧ wx.ownsRow wb 2 1 (.slice (some ⟨ga, 0, none⟩) pn c5) pn (ints (nums ps)) ∧ Below w.heap.size w wx ∧ Hid (∀ v, v < m → (P v).1 ≠ ga)) (fun jv _ => pn - (intOf jv).toNat)
                      case atStart => exact ⟨0, P, Ls, Nat.zero_le _, rfl, S0.out, NEAR5.out, HB5.out, GA.out.2.2.2⟩
                      case round =>
                        obtain ⟨j, P', Ls', hj, rfl, hSj, hNj, hBj, hPj⟩ := hrel
                        clear S0 NEAR5 HB5 HN5
                        by_cases hjn : j < pn
                        · have c1 := (hNj.cellAt j (by omega)).trans (nums_get (by rw [HPN.out]; exact hjn))
                          have pb := NBI.out (ps[j]'(by rw [HPN.out]; exact hjn)) (List.getElem_mem _)
                          have SKJ := Lib.hid (SKIP.out j hjn)
                          have TKJ := Lib.hid (fun v => TAKE.out j v hjn)
                          generalize (ps[j]'(by rw [HPN.out]; exact hjn)) = p at *
                          have c2 := (hSj.fo.cellAt p (by omega)).trans (ofL_get _ pb)
                          have OK5 := Lib.hid (OKJ.out j)
                          have j0 : (0 : Int) ≤ (j : Int) := by omega
                          have j1 : (j : Int) < (pn : Int) := by omega
                          have p0 : (0 : Int) ≤ (p : Int) := by omega
                          have p1 : (p : Int) < (n : Int) := by omega
                          have wj : IntKind.i64.wrap ((j : Int) + 1) = ((j + 1 : Nat) : Int) := by rw [IntWalk.i64_in _ (by omega)]; simp
                          have MORE := Lib.hid (fun v => part_more (N := n) HOK.out.1 (M := joinM st ps s j) (s := s) (v := v) (L := (l : Int)))
                          obtain ⟨SB, hSB⟩ : ∃ SB, Vl.part (joinM st ps s j) s (l : Int) st = SB := ⟨_, rfl⟩
                          have SBn : Hid (SB.n = m) := by rw [Hid, ← hSB]; exact hm.out
                          have HSB := Lib.hid hSB
                          rw [hSB] at hSj SKJ TKJ c2 OK5 MORE
                          clear hSB
                          have HSJ := Lib.hid hSj
                          have HNJ := Lib.hid hNj
                          have HBJ := Lib.hid hBj
                          have hl2 := hSj.lts.1.2
                          clear hSj hNj hBj
                          cases ho : SB.own p with
                          | none =>
                            have c3 : wr.cell? ⟨w.heap.size + 1, p, none⟩ = some (.int .i64 (-1)) := by rw [ho] at c2; exact c2
                            have JS : Hid (joinM st ps s (j + 1) = joinM st ps s j) := SKJ.out (.inl ho)
                            clear c2 SKJ TKJ MORE ho
                            go_wp2_with fail
                            exact ⟨⟨j + 1, P', Ls', by omega, by go_num, by rw [JS.out, HSB.out]; exact HSJ.out, HNJ.out, HBJ.out, hPj⟩, by simp [intOf]; omega⟩
                          | some v =>
                            have c3 : wr.cell? ⟨w.heap.size + 1, p, none⟩ = some (.int .i64 (v : Int)) := by rw [ho] at c2; exact c2
                            have v0 : ¬ (v : Int) < 0 := by omega
                            by_cases hvs : v = s
                            · subst hvs
                              have t1 : ((v : Int) == (v : Int)) = true := by simp
                              have JS : Hid (joinM st ps v (j + 1) = joinM st ps v j) := SKJ.out (.inr ho)
                              clear c2 SKJ TKJ MORE ho
                              go_wp2_with fail
                              exact ⟨⟨j + 1, P', Ls', by omega, by go_num, by rw [JS.out, HSB.out]; exact HSJ.out, HNJ.out, HBJ.out, hPj⟩, by simp [intOf]; omega⟩
                            · have t1 : ((v : Int) == (s : Int)) = false := by simp; omega
                              obtain ⟨k1, k2, k3⟩ := TKJ.out v ho hvs
                              have JT := Lib.hid k3
                              obtain ⟨o1, o2, o3⟩ := OK5.out.own p v ho
                              have vn : v < m := by rw [← SBn.out]; exact o1
                              have SM : Hid (Vl.part (fun u => joinM st ps s j u || u == v) s (l : Int) st = { SB with dies := fun u => if u = v then (l : Int) else SB.dies u, own := fun q => if SB.own q = some v then some s else SB.own q, mem := fun u q => if u = s then SB.mem s q || SB.mem v q else SB.mem u q }) := by
                                have h1 := HOK.out.1.own p v k1
                                have := MORE.out v hvs k2 h1.1 h1.2.1
                                exact this
                              have MV := Lib.hid (OK5.out.mem v o1 o2)
                              have ssn : s < SB.n := by rw [SBn.out]; exact SNM
                              have MS : Hid (∀ q, SB.mem s q = true ↔ SB.own q = some s) := OK5.out.mem s ssn (by rw [← HSB.out]; simp [Vl.part, joinM_self, SD.out])
                              obtain ⟨bd1, bd2⟩ := HSJ.out.bd OK5.out.lt o1
                              have bs2 := (HSJ.out.bd OK5.out.lt ssn).2
                              have VL0 : 0 < (Ls' v).length := List.length_pos_of_mem (((HSJ.out.mem v o1).2 p).2 ((MV.out p).2 ho))
                              have c4 := HSJ.out.cell o1 (k := 2) (by omega)
                              have f4 := HSJ.out.out.frozenAt (v * 4 + 2)
                              rw [show vc SB P' Ls' v 2 = .int .i64 (SB.dies v) from rfl] at c4
                              have v1 : (0 : Int) ≤ (v : Int) := by omega
                              have v2 : (v : Int) < (m : Int) := by omega
                              have og2 := HSJ.out.lts.2.1
                              have S6 : Hid (∀ V, V = wr.setCell ⟨og, v * 4 + 2, none⟩ (.int .i64 (l : Int)) → SV w.heap.size n (w.heap.size + 1) og oc P' Ls' { SB with dies := fun u => if u = v then (l : Int) else SB.dies u, own := fun q => if q ∈ (Ls' v).take 0 then some s else SB.own q } V ∧ V.ownsRow wb 2 1 (.slice (some ⟨ga, 0, none⟩) pn c5) pn (ints (nums ps)) ∧ Below w.heap.size w V) := by
                                rintro V rfl
                                have hg := (HSJ.out.out.stored (v * 4 + 2) (.int .i64 (l : Int))).2
                                exact ⟨(HSJ.out.setDies o1 (l : Int)).congr rfl (fun _ _ => ⟨rfl, rfl, rfl⟩) (fun q _ => by simp) (fun _ _ _ => Iff.rfl), HNJ.out.kept hg (.inr fun e => GA.out.2.2.1 (Option.some.inj e)), HBJ.out.grown hg HBJ.out.size (fun z hz => by have := Option.some.inj hz; omega)⟩
                              have OKL := Lib.hid OK5.out.lt
                              clear c2 SKJ TKJ MORE ho k1 k2 k3 o1 o2 o3 ssn OK5 HSB og2
                              go_upto_region 34 with fail
                              obtain ⟨w6, hw6⟩ : ∃ w6, w6 = wr.setCell ⟨og, v * 4 + 2, none⟩ (.int .i64 (l : Int)) := ⟨_, rfl⟩
                              rw [← hw6]
                              have S6' := Lib.hid (S6.out w6 hw6)
                              clear hw6 S6 c1 c3 c4 f4 HSJ HNJ HBJ hl2
                              have vv : v < SB.n := by rw [SBn.out]; exact vn
                              have c5v := S6'.out.1.cell (v := v) (k := 3) vv (by omega)
                              rw [show vc { SB with dies := fun u => if u = v then (l : Int) else SB.dies u, own := fun q => if q ∈ (Ls' v).take 0 then some s else SB.own q } P' Ls' v 3 = .slice (some ⟨(P' v).1, 0, none⟩) (Ls' v).length (P' v).2 from rfl] at c5v
                              go_wp2_with fail
                              go_loopw [121] (fun kv wx => ∃ k : Nat, k ≤ (Ls' v).length ∧ kv = .int .i64 k ∧ SV w.heap.size n (w.heap.size + 1) og oc P' Ls' { SB with dies := fun u => if u = v then (l : Int) else SB.dies u, own := fun q => if q ∈ (Ls' v).take k then some s else SB.own q } wx ∧ wx.ownsRow wb 2 1 (.slice (some ⟨ga, 0, none⟩) pn c5) pn (ints (nums ps)) ∧ Below w.heap.size w wx) (fun kv _ => (Ls' v).length - (intOf kv).toNat)
                              case atStart => exact ⟨0, Nat.zero_le _, rfl, S6'.out.1, S6'.out.2.1, S6'.out.2.2⟩
                              case round =>
                                obtain ⟨k, hk, rfl, hSk, hNk, hBk⟩ := hrel
                                clear S6' c5v
                                by_cases hkl : k < (Ls' v).length
                                · have d1 := hSk.cell (v := v) (k := 3) vv (by omega)
                                  rw [show vc { SB with dies := fun u => if u = v then (l : Int) else SB.dies u, own := fun q => if q ∈ (Ls' v).take k then some s else SB.own q } P' Ls' v 3 = .slice (some ⟨(P' v).1, 0, none⟩) (Ls' v).length (P' v).2 from rfl] at d1
                                  have d2 := ((hSk.set v vv).cellAt k (by omega)).trans (nums_get hkl)
                                  have qb := bd1 _ (List.getElem_mem hkl)
                                  have TK2 : Hid ((Ls' v).take (k + 1) = (Ls' v).take k ++ [(Ls' v)[k]]) := List.take_succ_eq_append_getElem hkl
                                  generalize (Ls' v)[k] = q at *
                                  have d3 := (hSk.fo.cellAt q (by omega)).trans (ofL_get _ qb)
                                  have d4 := hSk.fo.frozenAt q
                                  have q0 : (0 : Int) ≤ (q : Int) := by omega
                                  have q1 : (q : Int) < (n : Int) := by omega
                                  have k0 : (0 : Int) ≤ (k : Int) := by omega
                                  have k1 : (k : Int) < ((Ls' v).length : Int) := by omega
                                  have wk : IntKind.i64.wrap ((k : Int) + 1) = ((k + 1 : Nat) : Int) := by rw [IntWalk.i64_in _ (by omega)]; simp
                                  have lg := hSk.lts
                                  have S7 : Hid (∀ V, V = wr.setCell ⟨w.heap.size + 1, q, none⟩ (.int .i64 (s : Int)) → SV w.heap.size n (w.heap.size + 1) og oc P' Ls' { SB with dies := fun u => if u = v then (l : Int) else SB.dies u, own := fun q => if q ∈ (Ls' v).take (k + 1) then some s else SB.own q } V ∧ V.ownsRow wb 2 1 (.slice (some ⟨ga, 0, none⟩) pn c5) pn (ints (nums ps)) ∧ Below w.heap.size w V) := by
                                    rintro V rfl
                                    have hg := (hSk.fo.stored q (.int .i64 (s : Int))).2
                                    refine ⟨(hSk.setOf qb (some s)).congr rfl (fun _ _ => ⟨rfl, rfl, rfl⟩) (fun x _ => ?_) (fun _ _ _ => Iff.rfl), hNk.kept hg (.inr fun e => GA.out.2.1 (Option.some.inj e)), hBk.grown hg hBk.size (fun z hz => by have := Option.some.inj hz; omega)⟩
                                    show (if x ∈ (Ls' v).take (k + 1) then some s else SB.own x) = if x = q then some s else if x ∈ (Ls' v).take k then some s else SB.own x
                                    rw [TK2.out]
                                    by_cases e : x = q
                                    · rw [if_pos e, if_pos (by simp [e])]
                                    · rw [if_neg e]
                                      by_cases e2 : x ∈ (Ls' v).take k
                                      · rw [if_pos e2, if_pos (by simp [e2])]
                                      · rw [if_neg e2, if_neg (by simp [e2, e])]
                                  have lg2 := lg.1.2
                                  clear hSk hNk hBk TK2 lg
                                  go_wp2_with fail
                                  exact ⟨⟨k + 1, by omega, by go_num, (S7.out _ rfl).1, (S7.out _ rfl).2.1, (S7.out _ rfl).2.2⟩, by simp [intOf]; omega⟩
                                · obtain rfl : k = (Ls' v).length := by omega
                                  have ss : s < SB.n := by rw [SBn.out]; exact SNM
                                  have e1 := hSk.cell (v := s) (k := 3) ss (by omega)
                                  rw [show vc { SB with dies := fun u => if u = v then (l : Int) else SB.dies u, own := fun q => if q ∈ (Ls' v).take (Ls' v).length then some s else SB.own q } P' Ls' s 3 = .slice (some ⟨(P' s).1, 0, none⟩) (Ls' s).length (P' s).2 from rfl] at e1
                                  have e2 := hSk.cell (v := v) (k := 3) vv (by omega)
                                  rw [show vc { SB with dies := fun u => if u = v then (l : Int) else SB.dies u, own := fun q => if q ∈ (Ls' v).take (Ls' v).length then some s else SB.own q } P' Ls' v 3 = .slice (some ⟨(P' v).1, 0, none⟩) (Ls' v).length (P' v).2 from rfl] at e2
                                  have e3 := hSk.out.frozenAt (s * 4 + 3)
                                  have RS := hSk.set s ss
                                  have RV := hSk.set v vv
                                  have RVC := Lib.hid (RV.cells (g := (P' v).1) rfl)
                                  have lg := hSk.lts
                                  have dg := hSk.d2 s ss
                                  have JN : Hid (∀ g9 c9 (w9 : World), w9.ownsRow w.heap.size 2 1 (.slice (some ⟨g9, 0, none⟩) ((Ls' s).length + (Ls' v).length) c9) ((Ls' s).length + (Ls' v).length) (ints (nums (Ls' s ++ Ls' v))) → wr.drew.grownBy w9 (some (P' s).1) → (some (P' s).1 = some g9 ∨ g9 = wr.drew.heap.size) →
                                      w9.cell? ⟨og, s * 4 + 3, none⟩ = some (.slice (some ⟨(P' s).1, 0, none⟩) (Ls' s).length (P' s).2) ∧ w9.frozen? ⟨og, s * 4 + 3, none⟩ = false ∧ ∀ V, V = w9.setCell ⟨og, s * 4 + 3, none⟩ (.slice (some ⟨g9, 0, none⟩) ((Ls' s).length + (Ls' v).length) c9) →
                                      SV w.heap.size n (w.heap.size + 1) og oc (updF P' s (g9, c9)) (updF Ls' s (Ls' s ++ Ls' v)) (Vl.part (joinM st ps s (j + 1)) s (l : Int) st) V ∧ V.ownsRow wb 2 1 (.slice (some ⟨ga, 0, none⟩) pn c5) pn (ints (nums ps)) ∧ Below w.heap.size w V ∧ ∀ u, u < m → (updF P' s (g9, c9) u).1 ≠ ga) := by
                                    intro g9 c9 w9 ho9 hg9 hat9
                                    replace hSk := hSk.drewN 1
                                    replace hNk : wr.drew.ownsRow wb 2 1 (.slice (some ⟨ga, 0, none⟩) pn c5) pn (ints (nums ps)) := hNk
                                    replace hBk : Below w.heap.size w wr.drew := Ext.drawN hBk 1
                                    change SV _ _ _ _ _ _ _ _ wr.drew at hSk
                                    have OG := hSk.out.kept hg9 (.inr fun e => dg.2 (Option.some.inj e).symm)
                                    refine ⟨(OG.cellAt (s * 4 + 3) (by have := ss; show s * 4 + 3 < SB.n * 4; omega)).trans (row4_get _ ss (by omega)), OG.frozenAt _, ?_⟩
                                    rintro V rfl
                                    have MVQ : ∀ q, q ∈ Ls' v ↔ SB.own q = some v := fun q => ((hSk.mem v vv).2 q).trans (MV.out q)
                                    have MSQ : ∀ q, q ∈ Ls' s ↔ SB.own q = some s := fun q => ((hSk.mem s ss).2 q).trans (MS.out q)
                                    have J := hSk.join ss (l := Ls' v) (g := g9) (M := (Ls' s).length + (Ls' v).length) (cap := c9) (by simp) ho9 hg9 hat9 (fun u q => if u = s then SB.mem s q || SB.mem v q else SB.mem u q) (fun u hu => by
                                      by_cases e : u = s
                                      · subst e
                                        rw [updF_self]
                                        refine ⟨?_, fun q => ?_⟩
                                        · rw [List.nodup_append]
                                          refine ⟨(hSk.mem u ss).1, (hSk.mem v vv).1, fun a ha b hb e => ?_⟩
                                          subst e
                                          have h1 := (MSQ a).1 ha
                                          have h2 := (MVQ a).1 hb
                                          rw [h1] at h2
                                          exact hvs (Option.some.inj h2).symm
                                        · rw [List.mem_append, (hSk.mem u ss).2 q, (hSk.mem v vv).2 q]
                                          simp
                                      · rw [updF_ne _ _ e]
                                        refine ⟨(hSk.mem u hu).1, fun q => ?_⟩
                                        rw [if_neg e]
                                        exact (hSk.mem u hu).2 q)
                                    have hg10 := (OG.stored (s * 4 + 3) (.slice (some ⟨g9, 0, none⟩) ((Ls' s).length + (Ls' v).length) c9)).2
                                    refine ⟨?_, (hNk.kept hg9 (.inr fun e => hPj.out s SNM (Option.some.inj e).symm)).kept hg10 (.inr fun e => GA.out.2.2.1 (Option.some.inj e)), (hBk.grown hg9 hBk.size (fun z hz => by have := Option.some.inj hz; have := (lg.2.2 s ss).1; omega)).grown hg10 (Nat.le_trans hBk.size hg9.size) (fun z hz => by have := Option.some.inj hz; have := lg.2.1.1; omega), fun u hu => ?_⟩
                                    · rw [JT.out, SM.out]
                                      refine J.congr rfl (fun _ _ => ⟨rfl, rfl, rfl⟩) (fun q _ => ?_) (fun _ _ _ => Iff.rfl)
                                      show (if SB.own q = some v then some s else SB.own q) = if q ∈ (Ls' v).take (Ls' v).length then some s else SB.own q
                                      rw [List.take_length]
                                      by_cases e : q ∈ Ls' v
                                      · rw [if_pos e, if_pos ((MVQ q).1 e)]
                                      · rw [if_neg e, if_neg (fun h => e ((MVQ q).2 h))]
                                    · by_cases e : u = s
                                      · subst e
                                        rw [updF_self]
                                        rcases hat9 with h | h
                                        · rw [← Option.some.inj h]; exact hPj.out u hu
                                        · have := (hNk.lt ga rfl).2
                                          show g9 ≠ ga
                                          omega
                                      · rw [updF_ne _ _ e]; exact hPj.out u hu
                                  have lb := lg.1.1
                                  have lb2 := hBk.size
                                  have NA9 := Lib.hid (nums_app (Ls' s) (Ls' v)).symm
                                  have s1 : (s : Int) < (m : Int) := by omega
                                  clear hSk hNk hBk lg dg MV MS OKL SM JT bd1 vv ss RV
                                  go_wp2_with fail
                                  go_region_law (refine step_appM intT (by rfl) _ _ (by rfl) w.heap.size (.slice (some ⟨(P' s).1, 0, none⟩) (Ls' s).length (P' s).2) (Ls' s).length (ints (nums (Ls' s))) (by rfl) RS ⟨(P' v).1, 0, none⟩ (Ls' v).length (P' v).2 (ints (nums (Ls' v))) (by rfl) (by simp [ints, nums]) RVC.out (by simp [ints, nums, Value.oneCell']) VL0 ((Ls' s).length + (Ls' v).length) (ints (nums (Ls' s ++ Ls' v))) rfl NA9.out (by omega) lb2 ?_; intro g9 c9 w9 own9 hg9 hat9 hlt9; obtain ⟨k9, f9, J9⟩ := JN.out g9 c9 w9 own9 hg9 hat9; have J9h := Lib.hid J9; clear J9 own9 hg9 hat9)
                                  all_goals
                                    go_wp2_with fail
                                    exact ⟨⟨j + 1, _, _, by omega, by go_num, (J9h.out _ rfl).1, (J9h.out _ rfl).2.1, (J9h.out _ rfl).2.2.1, (J9h.out _ rfl).2.2.2⟩, by simp [intOf]; omega⟩
                        · obtain rfl : pn = j := by omega
                          have OKP := Lib.hid (OKJ.out pn)
                          have SP : Hid ((Vl.part (joinM st ps s pn) s (l : Int) st).n = m ∧ (Vl.part (joinM st ps s pn) s (l : Int) st).own i = none) := by
                            refine ⟨hm.out, ?_⟩
                            simp [Vl.part, HOK.out.2]
                          have ALIVE : Hid (∀ q, (Vl.part (joinM st ps s pn) s (l : Int) st).mem s q = true ↔ (Vl.part (joinM st ps s pn) s (l : Int) st).own q = some s) := OKP.out.mem s (by rw [SP.out.1]; exact SNM) (by simp [Vl.part, joinM_self, SD.out])
                          have NX1 : Hid (∀ og oc P Ls V, SV w.heap.size n (w.heap.size + 1) og oc P Ls (fin i s (Vl.part (joinM st ps s pn) s (l : Int) st)) V → SV w.heap.size n (w.heap.size + 1) og oc P Ls (fold (nbN W H) G (ordS G n l ++ lev G l (i + 1))) V) := fun og oc P Ls V h => NEXT.out _ _ _ _ _ (by rw [SN.out]; exact h)
                          have NX2 : Hid ((fold (nbN W H) G (ordS G n l ++ lev G l (i + 1))).n = m) := by rw [Hid, NEXN.out, SN.out]; exact hm.out
                          clear SN NEXT NEXN OKJ SKIP TAKE HOK NBI
                          generalize Vl.part (joinM st ps s pn) s (l : Int) st = SB at *
                          obtain ⟨sb1, sb2⟩ := SP.out
                          have ss : s < SB.n := by rw [sb1]; exact SNM
                          have bd := hSj.bd OKP.out.lt ss
                          have c2 := (hSj.fo.cellAt i (by omega)).trans (ofL_get _ hin)
                          have f2 := hSj.fo.frozenAt i
                          have hl2 := hSj.lts.1.2
                          have S6 : Hid (∀ V, V = wr.setCell ⟨w.heap.size + 1, i, none⟩ (.int .i64 (s : Int)) → SV w.heap.size n (w.heap.size + 1) og oc P' Ls' { SB with own := fun p => if p = i then some s else SB.own p } V ∧ Below w.heap.size w V) := by
                            rintro V rfl
                            exact ⟨hSj.setOf hin (some s), hBj.grown (hSj.fo.stored i (.int .i64 (s : Int))).2 hBj.size (fun z hz => by have := Option.some.inj hz; omega)⟩
                          have NI : Hid (¬ i ∈ Ls' s) := fun hi2 => by
                            have h1 := ((hSj.mem s ss).2 i).1 hi2
                            rw [ALIVE.out i, sb2] at h1
                            cases h1
                          clear hSj hBj hNj sb1 sb2 OKP SP
                          go_upto_region 42 with fail
                          obtain ⟨w6, hw6⟩ : ∃ w6, w6 = wr.setCell ⟨w.heap.size + 1, i, none⟩ (.int .i64 (s : Int)) := ⟨_, rfl⟩
                          rw [← hw6]
                          obtain ⟨S7, B7⟩ := S6.out w6 hw6
                          clear hw6 S6 c2 f2 hl2
                          have e1 := S7.cell (v := s) (k := 3) ss (by omega)
                          rw [show vc { SB with own := fun p => if p = i then some s else SB.own p } P' Ls' s 3 = .slice (some ⟨(P' s).1, 0, none⟩) (Ls' s).length (P' s).2 from rfl] at e1
                          have e3 := S7.out.frozenAt (s * 4 + 3)
                          have RS := S7.set s ss
                          have lg := S7.lts
                          have dg := S7.d2 s ss
                          have lw : og < w6.heap.size := lg.2.1.2
                          have e4 : (w6.alloc (.cells #[.int .i64 (i : Int)] 2)).cell? ⟨og, s * 4 + 3, none⟩ = some (.slice (some ⟨(P' s).1, 0, none⟩) (Ls' s).length (P' s).2) := by
                            have := (Ext.more (Ext.refl w6) (.cells #[.int .i64 (i : Int)] 2)).cell (p := ⟨og, s * 4 + 3, none⟩) lw
                            exact this.trans e1
                          have JN : Hid (∀ g9 c9 (w9 : World), w9.ownsRow w.heap.size 2 1 (.slice (some ⟨g9, 0, none⟩) ((Ls' s).length + 1) c9) ((Ls' s).length + 1) (ints (nums (Ls' s)) ++ [.int .i64 (i : Int)]) → (w6.alloc (.cells #[.int .i64 (i : Int)] 2)).grownBy w9 (some (P' s).1) → (some (P' s).1 = some g9 ∨ g9 = (w6.alloc (.cells #[.int .i64 (i : Int)] 2)).heap.size) →
                              w9.cell? ⟨og, s * 4 + 3, none⟩ = some (.slice (some ⟨(P' s).1, 0, none⟩) (Ls' s).length (P' s).2) ∧ w9.frozen? ⟨og, s * 4 + 3, none⟩ = false ∧ ∀ V, V = w9.setCell ⟨og, s * 4 + 3, none⟩ (.slice (some ⟨g9, 0, none⟩) ((Ls' s).length + 1) c9) →
                              SV w.heap.size n (w.heap.size + 1) og oc (updF P' s (g9, c9)) (updF Ls' s (Ls' s ++ [i])) (fin i s SB) V ∧ Below w.heap.size w V) := by
                            intro g9 c9 w9 ho9 hg9 hat9
                            have SA := S7.ext (Ext.more (Ext.refl w6) (.cells #[.int .i64 (i : Int)] 2))
                            have BA : Below w.heap.size w (w6.alloc (.cells #[.int .i64 (i : Int)] 2)) := Ext.more B7 _
                            have OG := SA.out.kept hg9 (.inr fun e => dg.2 (Option.some.inj e).symm)
                            refine ⟨(OG.cellAt (s * 4 + 3) (by have := ss; show s * 4 + 3 < SB.n * 4; omega)).trans (row4_get _ ss (by omega)), OG.frozenAt _, ?_⟩
                            rintro V rfl
                            have hg10 := (OG.stored (s * 4 + 3) (.slice (some ⟨g9, 0, none⟩) ((Ls' s).length + 1) c9)).2
                            refine ⟨?_, (BA.grown hg9 BA.size (fun z hz => by have := Option.some.inj hz; have := (lg.2.2 s ss).1; omega)).grown hg10 (Nat.le_trans BA.size hg9.size) (fun z hz => by have := Option.some.inj hz; have := lg.2.1.1; omega)⟩
                            have J := SA.join ss (l := [i]) (g := g9) (M := (Ls' s).length + 1) (cap := c9) (by simp) (by rw [nums_app]; exact ho9) hg9 hat9 (fin i s SB).mem (fun u hu => by
                              by_cases e : u = s
                              · subst e
                                rw [updF_self]
                                refine ⟨?_, fun q => ?_⟩
                                · rw [List.nodup_append]
                                  refine ⟨(SA.mem u ss).1, by simp, fun a ha b hb e => ?_⟩
                                  have hb2 : b = i := by simpa using hb
                                  rw [e, hb2] at ha
                                  exact NI.out ha
                                · rw [List.mem_append, (SA.mem u ss).2 q]
                                  by_cases e2 : q = i
                                  · simp [fin, e2]
                                  · simp [fin, e2]
                              · rw [updF_ne _ _ e]
                                refine ⟨(SA.mem u hu).1, fun q => ?_⟩
                                rw [(SA.mem u hu).2 q]
                                simp [fin, e])
                            exact J.congr rfl (fun _ _ => ⟨rfl, rfl, rfl⟩) (fun _ _ => rfl) (fun _ _ _ => Iff.rfl)
                          have lb := lg.1.1
                          have lb2 := B7.size
                          have s1 : (s : Int) < (m : Int) := by omega
                          clear S7 B7 lg dg ALIVE NI
                          go_wp2_with (at_builtin; refine wpList_app intT (by rfl) _ _ (by rfl) w.heap.size (.slice (some ⟨(P' s).1, 0, none⟩) (Ls' s).length (P' s).2) (Ls' s).length (ints (nums (Ls' s))) (by rfl) (RS.alloc _) w6.heap.size #[.int .i64 (i : Int)] (by rfl) (by exact heap_alloc_new w6 _) rfl (by simp [Value.oneCell']) (by omega) (by simp; omega) ?_; intro g9 c9 w9 own9 hg9 hat9 hlt9; obtain ⟨k9, f9, J9⟩ := JN.out g9 c9 w9 own9 hg9 hat9; have J9h := Lib.hid J9; clear J9 own9 hg9 hat9)
                          go_roundw
                          case rel => exact ⟨i + 1, og, oc, _, _, m, by omega, by go_num, rfl, NX2.out, NX1.out _ _ _ _ _ (J9h.out _ rfl).1, (J9h.out _ rfl).2⟩
                          case measure => simp [intOf]; omega
              ·
                have tb : (G i != (l : Int)) = true := by simp [hne]
                have U1 : Hid ((fold (nbN W H) G (ordS G n l ++ lev G l (i + 1))).n = m ∧ SV w.heap.size n (w.heap.size + 1) og oc P Ls (fold (nbN W H) G (ordS G n l ++ lev G l (i + 1))) wr) := by
                  rw [lev_succ, if_neg hne]; exact ⟨hm.out, hS⟩
                have HB := Lib.hid hB
                clear hS hm hne hB
                go_wp2_with fail
                go_roundw
                case rel => exact ⟨i + 1, og, oc, P, Ls, m, by omega, by go_num, rfl, U1.out.1, U1.out.2, HB.out⟩
                case measure => simp [intOf]; omega
            · obtain rfl : n = i := by omega
              have t1 : ¬ ((n : Int) < (n : Int)) := by omega
              have wl : IntKind.i64.wrap ((l : Int) + 1) = ((l + 1 : Nat) : Int) := by rw [IntWalk.i64_in _ (by omega)]; simp
              have U1 : Hid ((fold (nbN W H) G (ordS G n (l + 1))).n = m ∧ SV w.heap.size n (w.heap.size + 1) og oc P Ls (fold (nbN W H) G (ordS G n (l + 1))) wr) := by
                rw [ordS_succ]; exact ⟨hm.out, hS⟩
              clear hS hm
              go_wp2_with fail
              go_roundw
              case rel => exact ⟨l + 1, og, oc, P, Ls, m, by omega, by go_num, rfl, U1.out.1, U1.out.2, hB⟩
              case measure => simp [intOf]; omega
        · obtain rfl : l = 100 := by omega
          have R := Lib.hid (And.intro hS hB2)
          have HM := hm
          clear hS hB2 hm
          go_wp2_with fail
          go_ret
          exact ⟨_, og, oc, P, Ls, by rw [HM.out]; rfl, R.out.1, R.out.2⟩
end Go.Proofs.Ytkamkjbllmgifaa
