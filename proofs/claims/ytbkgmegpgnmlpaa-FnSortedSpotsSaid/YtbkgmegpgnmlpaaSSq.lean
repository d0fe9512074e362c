/- SortAlong, WayAlong, CloseAlong: the program's. -/
import Derived.Test.YtbkgmegpgnmlpaaSSp
import Derived.Test.YtbkgmegpgnmlpaaIvl
import Derived.Test.YtbkgmegpgnmlpaaLong
namespace Go.Proofs.Ytbkgmegpgnmlpaa
open Go.RowKit

/-- Spots sorted along a curve; none where they are not right. -/
def srtV (c o : Int) (L : List (Int × Int)) : List (Int × Int) := if sokB c o L then sSp c o L else []
/-- A call has returned spots of memory of its own. -/
def SpRes (w : World) (R : List (Int × Int)) (ok : Bool) (e : Ending) (w' : World) : Prop :=
  ∃ A c, e = .returned (.tuple #[.slice A R.length c, .bool ok]) ∧ w'.ownsRow w.heap.size 29 2 (.slice A R.length c) R.length (spL R) ∧ (ok = true → ∃ g, A = some ⟨g, 0, none⟩) ∧ Below w.heap.size w w'
theorem SpRes.no {w w' : World} {R : List (Int × Int)} {ok : Bool} (hR : R = []) (hok : ok = false) (hb : Below w.heap.size w w') : SpRes w R ok (.returned (.tuple #[.slice none 0 0, .bool false])) w' := by
  subst hR hok
  exact ⟨none, 0, rfl, own_nil _ _ _ _, (fun h => by cases h), hb⟩
theorem sok_split (c o : Int) (L : List (Int × Int)) : sokB c o L = (curveOkB c o && (decide (L.length ≤ 256) && L.all (onB o))) := rfl

set_option maxRecDepth 100000 in
set_option maxHeartbeats 2000000 in
theorem sortedAlong_any (c o : Int) (g cp n : Nat) (L : List (Int × Int)) (w : World) (hA : SpAt w g L) (hl : L.length = n) (hn : n ≤ 1000000000) :
    Calls Try.prog 74 #[.int .i64 c, .int .i64 o, .slice (some ⟨g, 0, none⟩) n cp] w (SpRes w (srtV c o L) (sokB c o L)) := by
  obtain ⟨wB, hwB⟩ : ∃ wB, (w.alloc (.cells #[.int .i64 c] 2)).alloc (.cells #[.int .i64 o] 2) = wB := ⟨_, rfl⟩
  have T1 : Blk wB w.heap.size 2 #[.int .i64 c] := by rw [← hwB]; exact (Blk.made w _ _).more _
  have T2 : Blk wB (w.heap.size + 1) 2 #[.int .i64 o] := by
    have := Blk.made (w.alloc (.cells #[.int .i64 c] 2)) 2 #[.int .i64 o]
    rw [hwB] at this; simpa using this
  have B1 : Below w.heap.size w wB := by rw [← hwB]; exact Ext.more (Ext.more (Ext.refl _) _) _
  have z2 : wB.heap.size = w.heap.size + 2 := by rw [← hwB]; simp
  have k0 := T1.cell 0
  have k1 := T2.cell 0
  simp at k0 k1
  cases h1 : curveOkB c o
  · have F : Hid (srtV c o L = [] ∧ sokB c o L = false) := by simp [Hid, srtV, sok_split, h1]
    clear T1 T2 z2
    go_enter Try.func74, Try.ntmps74
    go_wp2_with fail
    try simp only [hwB]
    refine (curveOk_any _ _ _).mono ?_
    rintro e w' ⟨rfl, rfl⟩
    go_wp2_with fail
    go_ret2
    exact SpRes.no F.out.1 F.out.2 B1
  obtain ⟨⟨hc0, hc3⟩, h0, h4⟩ := curveOk_iff.1 h1
  by_cases h2 : n ≤ 256
  case neg =>
    have F : Hid (srtV c o L = [] ∧ sokB c o L = false) := by simp [Hid, srtV, sok_split, hl, h2]
    have t0 : (256 : Int) < (n : Int) := by omega
    clear T1 T2 z2 h2 hl
    go_enter Try.func74, Try.ntmps74
    go_wp2_with fail
    try simp only [hwB]
    refine (curveOk_any _ _ _).mono ?_
    rintro e w' ⟨rfl, rfl⟩
    go_wp2_with fail
    go_ret2
    exact SpRes.no F.out.1 F.out.2 B1
  have t0 : ¬ (256 : Int) < (n : Int) := by omega
  have AL := Lib.hid (all_any g cp n 85 #[.pointer (some ⟨w.heap.size + 1, 0, none⟩)] L (onB o) wB (hA.ext B1) hl hn enters_srt1 (fun p hp wr hb => by
    have hk := (T2.under hb T2.lt).cell 0
    simp at hk
    exact srt1_any (w.heap.size + 1) o p.1 p.2 wr h0 h4 hk (T2.under hb T2.lt).lt))
  cases h3 : L.all (onB o)
  · have F : Hid (srtV c o L = [] ∧ sokB c o L = false) := by simp only [Hid, srtV, sok_split, h3]; simp
    rw [h3] at AL
    clear T1 T2 z2 h2 hl h3
    go_enter Try.func74, Try.ntmps74
    go_wp2_with fail
    try simp only [hwB]
    refine (curveOk_any _ _ _).mono ?_
    rintro e w' ⟨rfl, rfl⟩
    go_wp2_with fail
    refine (AL.out).mono ?_
    rintro e w2 ⟨rfl, hb2⟩
    go_wp2_with fail
    go_ret2
    exact SpRes.no F.out.1 F.out.2 (Ext.then_ B1 hb2)
  have hL : ∀ p ∈ L, onB o p = true := List.all_eq_true.1 h3
  have F : Hid (srtV c o L = sSp c o L ∧ sokB c o L = true) := by
    have e : sokB c o L = true := by simp only [sok_split, h1, h3]; simp [hl, h2]
    exact ⟨by rw [srtV, if_pos e], e⟩
  have hsl : Hid ((sSp c o L).length = n) := by rw [Hid, sSp_len h0 h4 hL, hl]
  have CL := Lib.hid (fun U (hb : Below wB.heap.size wB U) => cloneS_any g cp n L U ((hA.ext B1).ext hb) hl hn)
  have SO := Lib.hid (fun base g cap U h hc ho lc lo hB => sortSp_any (base := base) (g := g) (cap := cap) (w.heap.size) (w.heap.size + 1) U hc0 hc3 h0 h4 h hl hn hL hc ho lc lo hB)
  rw [h3] at AL
  rw [F.out.1, F.out.2]
  generalize sSp c o L = R at *
  clear h2 hl h3 F hL hA
  go_enter Try.func74, Try.ntmps74
  go_wp2_with fail
  try simp only [hwB]
  refine (curveOk_any _ _ _).mono ?_
  rintro e w' ⟨rfl, rfl⟩
  go_wp2_with fail
  refine (AL.out).mono ?_
  rintro e w2 ⟨rfl, hb2⟩
  go_wp2_with fail
  refine (CL.out _ hb2).mono ?_
  rintro e w3 ⟨g3, c3, rfl, own3, hb3⟩
  have z3 := hb2.size
  have U1 := T1.under (Ext.then_ hb2 hb3) T1.lt
  have U2 := T2.under (Ext.then_ hb2 hb3) T2.lt
  have q0 := U1.cell 0
  have q1 := U2.cell 0
  simp at q0 q1
  have C := Lib.hid (SO.out _ g3 c3 w3 own3 q0 q1 (by omega) (by omega) hb3.size)
  have l3 := (own3.lt g3 rfl).1
  have z4 := hb3.size
  clear own3 q0 q1 U1 U2 k0 k1
  go_wp2_with fail
  refine (C.out).mono ?_
  rintro e w4 ⟨rfl, own4, hg4⟩
  have B4 : Below w.heap.size w w4 := (Ext.then_ B1 (Ext.then_ hb2 hb3)).grown hg4 (by omega) (fun z hz => by cases hz; omega)
  have HO := Lib.hid (own_base own4 (show w.heap.size ≤ w2.heap.size by omega))
  clear own4 hg4
  go_wp2_with fail
  go_ret2
  exact ⟨some ⟨g3, 0, none⟩, c3, by rw [hsl.out]; rfl, by rw [hsl.out]; exact HO.out, (fun _ => ⟨g3, rfl⟩), B4⟩
set_option maxHeartbeats 400000 in
theorem sortAlong_any (c o : Int) (g cp n : Nat) (L : List (Int × Int)) (w : World) (hA : SpAt w g L) (hl : L.length = n) (hn : n ≤ 1000000000) :
    Calls Try.prog 36 #[.int .i64 c, .int .i64 o, .slice (some ⟨g, 0, none⟩) n cp] w (SpRes w (srtV c o L) (sokB c o L)) := by
  have C := Lib.hid (sortedAlong_any c o g cp n L w hA hl hn)
  clear hA hl
  go_enter Try.func36, Try.ntmps36
  go_wp2_with fail
  refine (C.out).mono ?_
  rintro e w2 ⟨A, c2, rfl, ho, hs, hb⟩
  have HO := Lib.hid (And.intro ho hs)
  clear ho hs
  go_wp2_with fail
  go_ret2
  exact ⟨A, c2, rfl, HO.out.1, HO.out.2, hb⟩

theorem sSp_at {c o : Int} {L : List (Int × Int)} {p : Int × Int} (h : p ∈ sSp c o L) : ∃ k : Nat, p = gp (visTo c o (side o).toNat (side o).toNat) k := by
  rw [sSp, List.mem_map] at h
  obtain ⟨n, _, rfl⟩ := h
  exact ⟨_, rfl⟩
theorem small0 : Small 0 := ⟨by decide, by decide⟩
theorem gp_small {V : List (Int × Int)} (h : SmallL V) (k : Nat) : Small (gp V k).1 ∧ Small (gp V k).2 := by
  rw [gp, List.getD_eq_getElem?_getD]
  cases e : V[k]? with
  | none => exact ⟨small0, small0⟩
  | some p => exact h p (List.mem_of_getElem? e)
theorem sSp_small {c o : Int} (h0 : 0 ≤ o) (h4 : o ≤ 4) (L : List (Int × Int)) : SmallL (sSp c o L) := by
  intro p hp
  obtain ⟨k, rfl⟩ := sSp_at hp
  have h1 := side_le h0 h4
  have h2 := side_pos h0 h4
  exact gp_small (visTo_small c o _ (by omega) _ (by omega)) k
theorem jmp_bd {p q : Int × Int} (hp : Small p.1 ∧ Small p.2) (hq : Small q.1 ∧ Small q.2) : 0 ≤ jmp p q ∧ jmp p q ≤ 2000 := by
  obtain ⟨⟨a1, a2⟩, b1, b2⟩ := hp
  obtain ⟨⟨c1, c2⟩, d1, d2⟩ := hq
  have h1 := absI_bd (n := p.1 - q.1) (by omega) (by omega)
  have h2 := absI_bd (n := p.2 - q.2) (by omega) (by omega)
  unfold jmp far0
  omega
/-- The sum of the first k jumps. -/
def waySum (R : List (Int × Int)) (k : Nat) : Int := (jl R k).sum
theorem waySum_succ (R : List (Int × Int)) (k : Nat) : waySum R (k + 1) = waySum R k + jmp (gp R k) (gp R (k + 1)) := by
  rw [waySum, waySum, jl_succ, List.sum_append]; simp
theorem waySum_bd {R : List (Int × Int)} (h : SmallL R) (k : Nat) : 0 ≤ waySum R k ∧ waySum R k ≤ 2000 * k := by
  induction k with
  | zero => simp [waySum, jl]
  | succ k ih => rw [waySum_succ]; have := jmp_bd (gp_small h k) (gp_small h (k + 1)); omega
/-- The way along a curve. -/
def wayA (c o : Int) (L : List (Int × Int)) : Int := if sokB c o L then waySum (sSp c o L) ((sSp c o L).length - 1) else 0
theorem ret_way {a b : Int} {c d : Bool} (h : a = b) (k : c = d) : Ending.returned (.tuple #[.int .i64 b, .bool d]) = .returned (.tuple #[.int .i64 a, .bool c]) := by rw [h, k]
theorem srtV_no {c o : Int} {L : List (Int × Int)} (h : sokB c o L = false) : srtV c o L = [] := by rw [srtV, h]; rfl
theorem srtV_yes {c o : Int} {L : List (Int × Int)} (h : sokB c o L = true) : srtV c o L = sSp c o L := by rw [srtV, h]; rfl
theorem sok_few {c o : Int} {L : List (Int × Int)} (h : sokB c o L = true) : (0 ≤ c ∧ c ≤ 3) ∧ (0 ≤ o ∧ o ≤ 4) ∧ L.length ≤ 256 ∧ ∀ p ∈ L, onB o p = true := by
  obtain ⟨h1, h2, h3⟩ := sokB_iff.1 h
  obtain ⟨a, b⟩ := curveOk_iff.1 h1
  exact ⟨a, b, h2, h3⟩

set_option maxRecDepth 100000 in
set_option maxHeartbeats 1000000 in
theorem wayAlong_any (c o : Int) (g cp n : Nat) (L : List (Int × Int)) (w : World) (hA : SpAt w g L) (hl : L.length = n) (hn : n ≤ 1000000000) :
    Calls Try.prog 41 #[.int .i64 c, .int .i64 o, .slice (some ⟨g, 0, none⟩) n cp] w fun e w' => e = .returned (.tuple #[.int .i64 (wayA c o L), .bool (sokB c o L)]) ∧ Below w.heap.size w w' := by
  have C := Lib.hid (sortedAlong_any c o g cp n L w hA hl hn)
  clear hA
  cases h : sokB c o L
  · have F : Hid (wayA c o L = 0) := by rw [Hid, wayA, h]; rfl
    rw [h] at C
    clear h hl
    go_enter Try.func41, Try.ntmps41
    go_wp2_with fail
    refine (C.out).mono ?_
    rintro e w2 ⟨A, c2, rfl, ho, hs, hb⟩
    clear ho hs
    go_wp2_with fail
    go_ret2
    exact ⟨ret_way F.out rfl, hb⟩
  · obtain ⟨-, ⟨h0, h4⟩, hf, hL⟩ := sok_few h
    have F : Hid (wayA c o L = waySum (sSp c o L) (n - 1)) := by rw [Hid, wayA, if_pos h, sSp_len h0 h4 hL, hl]
    have hsm := sSp_small h0 h4 L (c := c)
    have hlen := sSp_len h0 h4 hL (c := c)
    rw [h, srtV_yes h] at C
    rw [hl] at hlen hf
    generalize sSp c o L = R at *
    clear h hl hL
    have HL := Lib.hid hlen
    have WB := Lib.hid (fun k => waySum_bd hsm k)
    have WS := Lib.hid (waySum_succ R)
    have J := Lib.hid (fun (g c : Nat) U (hU : SpAt U g R) => jumps_any g c R U hU (by omega) hsm)
    have JB := Lib.hid (fun k => jmp_bd (gp_small hsm k) (gp_small hsm (k + 1)))
    rw [hlen] at J
    clear hlen hsm
    go_enter Try.func41, Try.ntmps41
    go_wp2_with fail
    refine (C.out).mono ?_
    rintro e w2 ⟨A, c2, rfl, ho, hs, hb⟩
    obtain ⟨g2, rfl⟩ := hs rfl
    rw [HL.out] at ho
    have hS := Lib.hid (own_spots ho HL.out)
    clear ho hs
    have hlenR : R.length = n := HL.out
    rw [hlenR]
    clear hlenR
    go_wp2_with fail
    refine (J.out _ _ _ hS.out).mono ?_
    rintro e w3 ⟨g3, c3, rfl, ho, hb3⟩
    have hI := Lib.hid (own_ints ho (jl_length R (n - 1)))
    have hB := Ext.then_ hb hb3
    obtain ⟨m, hm⟩ : ∃ m, n - 1 = m := ⟨_, rfl⟩
    rw [hm] at hI F
    rw [hm]
    have hm2 : m ≤ 256 := by omega
    have W0 : Hid (waySum R 0 = 0) := rfl
    clear ho hm
    go_wp2_with fail
    go_loop [10, 12, 25] (fun v _ i => ∃ k : Nat, k ≤ m ∧ i = .int .i64 k ∧ v = .int .i64 (waySum R k)) (fun _ _ i => m - (intOf i).toNat)
    case atStart => exact ⟨0, Nat.zero_le _, rfl, by rw [W0.out]⟩
    case round =>
      obtain ⟨k, hk, rfl, rfl⟩ := hrel
      by_cases hlt : k < m
      · have hkl : k < (jl R m).length := by rw [jl_length]; exact hlt
        have c1 := hI.out.2 k hkl
        have e1 : (jl R m)[k] = jmp (gp R k) (gp R (k + 1)) := by simp [jl]
        rw [e1] at c1
        have hg := hI.out.1
        have S := Lib.hid (WS.out k)
        have b1 := WB.out k
        have b2 := JB.out k
        generalize jmp (gp R k) (gp R (k + 1)) = x at *
        generalize waySum R k = q at *
        have i0 : (0 : Int) ≤ (k : Int) := by omega
        have i1 : (k : Int) < (m : Int) := by omega
        clear e1 hkl
        go_wp2_with fail
        go_round
        case rel => exact ⟨k + 1, by omega, by go_num, by rw [S.out]⟩
        case measure => simp [intOf]; omega
      · obtain rfl : k = m := by omega
        go_wp2_with fail
        go_ret2
        exact ⟨ret_way F.out rfl, hB⟩

theorem sIx_len {c o : Int} (h0 : 0 ≤ o) (h4 : o ≤ 4) {L : List (Int × Int)} (h : ∀ p ∈ L, onB o p = true) : (sIx c o L).length = L.length := by
  rw [sIx, srtTo_len (ixL_bd h0 h4 (sideN h0 h4) h), ixL, List.length_map]
theorem sIx_bd {c o : Int} (h0 : 0 ≤ o) (h4 : o ≤ 4) {L : List (Int × Int)} : ∀ x ∈ sIx c o L, 0 ≤ x ∧ x < 256 := by
  intro x hx
  have h1 := side_le h0 h4
  have h2 := side_pos h0 h4
  have h3 := srtTo_bd _ _ x hx
  have : (side o).toNat * (side o).toNat ≤ 16 * 16 := Nat.mul_le_mul (by omega) (by omega)
  omega
/-- The sorted spots' indices are the sorted indices. -/
theorem sSp_ix {c o : Int} (hc0 : 0 ≤ c) (hc3 : c ≤ 3) (h0 : 0 ≤ o) (h4 : o ≤ 4) (L : List (Int × Int)) {k : Nat} (hk : k < (sIx c o L).length) : idxI c o (gp (sSp c o L) k).1 (gp (sSp c o L) k).2 = (sIx c o L)[k] ∧ onB o (gp (sSp c o L) k) = true ∧ gp (sSp c o L) k = gp (visTo c o (side o).toNat (side o).toNat) ((sIx c o L)[k]).toNat := by
  have hk2 : k < (sSp c o L).length := by rw [sSp, List.length_map]; exact hk
  have e : gp (sSp c o L) k = gp (visTo c o (side o).toNat (side o).toNat) ((sIx c o L)[k]).toNat := by
    rw [← gp_at hk2]; simp [sSp]
  have hb := srtTo_bd (ixL c o L) ((side o).toNat * (side o).toNat) ((sIx c o L)[k]) (List.getElem_mem hk)
  have := ix_gp hc0 hc3 h0 h4 (sideN h0 h4) (c := c) (i := ((sIx c o L)[k]).toNat) (by have := hb.2; have := hb.1; omega)
  rw [e, this.1]
  exact ⟨Int.toNat_of_nonneg hb.1, this.2, rfl⟩
def clOk (c o : Int) (L : List (Int × Int)) (gap : Int) : Bool := sokB c o L && inB gap 0 256
/-- The parts of spots along a curve. -/
def clP (c o : Int) (L : List (Int × Int)) (gap : Int) : List (Int × Int) := if clOk c o L gap then prtTo gap (sIx c o L) (sIx c o L).length else []
theorem ints_take {l : List Int} {k : Nat} (h : k < l.length) : ints (l.take (k + 1)) = ints (l.take k) ++ [.int .i64 l[k]] := by
  rw [List.take_succ_eq_append_getElem h, ints, ints, List.map_append]; rfl

set_option maxRecDepth 100000 in
set_option maxHeartbeats 1000000 in
theorem closeAlong_any (c o gap : Int) (g cp n : Nat) (L : List (Int × Int)) (w : World) (hA : SpAt w g L) (hl : L.length = n) (hn : n ≤ 1000000000) :
    Calls Try.prog 43 #[.int .i64 c, .int .i64 o, .slice (some ⟨g, 0, none⟩) n cp, .int .i64 gap] w (IvRes w (clP c o L gap) (clOk c o L gap)) := by
  have C := Lib.hid (sortedAlong_any c o g cp n L w hA hl hn)
  clear hA
  cases h : sokB c o L
  · have F : Hid (clP c o L gap = [] ∧ clOk c o L gap = false) := by simp [Hid, clP, clOk, h]
    rw [h] at C
    clear h hl
    go_enter Try.func43, Try.ntmps43
    go_wp2_with fail
    refine (C.out).mono ?_
    rintro e w2 ⟨A, c2, rfl, ho, hs, hb⟩
    clear ho hs
    go_wp2_with fail
    go_ret2
    exact IvRes.no F.out.1 F.out.2 hb
  obtain ⟨⟨hc0, hc3⟩, ⟨h0, h4⟩, hf, hL⟩ := sok_few h
  have I := Lib.hid (fun V => in_any gap 0 256 V)
  cases h2 : inB gap 0 256
  · have F : Hid (clP c o L gap = [] ∧ clOk c o L gap = false) := by simp [Hid, clP, clOk, h2]
    rw [h] at C
    rw [h2] at I
    clear h hl h2
    go_enter Try.func43, Try.ntmps43
    go_wp2_with fail
    refine (C.out).mono ?_
    rintro e w2 ⟨A, c2, rfl, ho, hs, hb⟩
    clear ho hs
    go_wp2_with fail
    refine (I.out _).mono ?_
    rintro e w' ⟨rfl, rfl⟩
    go_wp2_with fail
    go_ret2
    exact IvRes.no F.out.1 F.out.2 hb
  obtain ⟨gp0, gp1⟩ := inB_iff.1 h2
  have F : Hid (clP c o L gap = prtTo gap (sIx c o L) n ∧ clOk c o L gap = true) := by
    have e : clOk c o L gap = true := by simp [clOk, h, h2]
    exact ⟨by rw [clP, if_pos e, sIx_len h0 h4 hL, hl], e⟩
  have hlen := sSp_len h0 h4 hL (c := c)
  have hlen2 := sIx_len h0 h4 hL (c := c)
  have IX := Lib.hid (fun k (hk : k < (sIx c o L).length) => sSp_ix hc0 hc3 h0 h4 L hk)
  have hbd := sIx_bd h0 h4 (c := c) (L := L)
  have IdO := Lib.hid (fun x y V (h : onB o (x, y) = true) => by
    have := onB_iff.1 h
    exact indexOf_any c o x y V hc0 hc3 h0 h4 this.1.1 (by omega) this.2.1 (by omega))
  rw [h, srtV_yes h] at C
  rw [hl] at hlen hf hlen2
  rw [h2] at I
  rw [F.out.1, F.out.2]
  generalize sSp c o L = R at *
  generalize sIx c o L = S at *
  have PA := Lib.hid (fun (g0 c0 : Nat) U (hI : IntAt U g0 S) => parts_any g0 c0 n S gap U hI hlen2 (by omega) (fun x hx => by have := hbd x hx; omega) (by omega))
  have HL := Lib.hid hlen
  have HS := Lib.hid hlen2
  clear h hl hL h2 hlen hlen2 F hbd
  go_enter Try.func43, Try.ntmps43
  go_wp2_with fail
  refine (C.out).mono ?_
  rintro e w2 ⟨A, c2, rfl, ho, hs, hb⟩
  obtain ⟨g2, rfl⟩ := hs rfl
  rw [HL.out] at ho
  have hSp := Lib.hid (own_spots ho HL.out)
  clear ho hs
  have hlenR : R.length = n := HL.out
  rw [hlenR]
  clear hlenR
  go_wp2_with fail
  refine (I.out _).mono ?_
  rintro e w' ⟨rfl, rfl⟩
  obtain ⟨w3, hw3⟩ : ∃ w3, w2.alloc (.cells #[] 2) = w3 := ⟨_, rfl⟩
  have O3 : w3.ownsRow w2.heap.size 2 1 (.slice (some ⟨w2.heap.size, 0, none⟩) 0 0) 0 (ints (S.take 0)) := by rw [← hw3]; exact World.ownsRow_lit (e := 2) (size := 1) w2 #[] 0 (Nat.le_refl _) (by decide) rfl
  have B3 : Below w2.heap.size w2 w3 := ext_of_alloc hw3
  go_wp2_with fail
  try simp only [hw3]
  go_loopw [12, 14, 32] (fun v _ i wr => ∃ (k g c : Nat), k ≤ n ∧ i = .int .i64 k ∧ v = .slice (some ⟨g, 0, none⟩) k c ∧ wr.ownsRow w2.heap.size 2 1 (.slice (some ⟨g, 0, none⟩) k c) k (ints (S.take k)) ∧ Below w2.heap.size w2 wr) (fun _ _ i _ => n - (intOf i).toNat)
  case atStart => exact ⟨0, _, _, Nat.zero_le _, rfl, rfl, O3, B3⟩
  case round =>
    obtain ⟨k, gk, ck, hk, rfl, rfl, hown, hbk⟩ := hrel
    clear O3 B3
    by_cases hlt : k < n
    · have hS := hSp.out.ext hbk
      obtain ⟨c1, c2⟩ := hS.2 k (by rw [HL.out]; exact hlt)
      have hg := hS.1
      rw [gp_at (by rw [HL.out]; exact hlt)] at c1 c2
      obtain ⟨x1, x2, -⟩ := IX.out k (by rw [HS.out]; exact hlt)
      have IT := Lib.hid (ints_take (l := S) (k := k) (by rw [HS.out]; exact hlt))
      generalize S[k]'(by rw [HS.out]; exact hlt) = v at *
      generalize gp R k = p at *
      obtain ⟨px, py⟩ := p
      simp only at c1 c2 x1
      have IC := Lib.hid (fun V => IdO.out px py V x2)
      rw [x1] at IC
      have i0 : (0 : Int) ≤ (k : Int) := by omega
      have i1 : (k : Int) < (n : Int) := by omega
      have HO := Lib.hid hown
      have zk := hbk.size
      clear hS x1 hown
      go_wp2_with fail
      refine (IC.out _).mono ?_
      rintro e w4 ⟨rfl, q4⟩
      have hb4 := Ext.then_ (Ext.more (Ext.refl wr) (.cells #[.int .i64 px, .int .i64 py] 29)) (ext_of_alloc q4)
      have O4 := own_ext hb4 HO.out
      have hB4 := Ext.then_ hbk hb4
      have z4 := hB4.size
      clear q4 hb4
      go_wp2_with (at_builtin; refine wpList_app intT (by rfl) _ _ (by rfl) w2.heap.size (.slice (some ⟨gk, 0, none⟩) k ck) k (ints (S.take k)) (by rfl) (O4.alloc _) w4.heap.size #[.int .i64 v] (by rfl) (heap_alloc_new _ _) rfl (by simp [Value.oneCell']) (by omega) (by simp; omega) ?_; intro g5 c5 w5 hown5 hgrow5 hat5 hlt5)
      have O5 : Hid (w5.ownsRow w2.heap.size 2 1 (.slice (some ⟨g5, 0, none⟩) (k + 1) c5) (k + 1) (ints (S.take (k + 1)))) := by rw [Hid, IT.out]; exact hown5
      have B5 : Below w2.heap.size w2 w5 := (Ext.more hB4 _).grown hgrow5 (by simp; omega) (fun z hz => (O4.lt z hz).1)
      clear hown5 hgrow5 hat5 O4
      go_wp2_with fail
      go_roundw
      case rel => exact ⟨k + 1, g5, c5, by omega, by go_num, rfl, O5.out, B5⟩
      case measure => simp [intOf]; omega
    · obtain rfl : k = n := by omega
      have e1 : S.take k = S := by rw [← HS.out]; exact List.take_length
      rw [e1] at hown
      have P := Lib.hid (PA.out gk ck wr (own_ints hown HS.out))
      clear hown e1
      go_wp2_with fail
      refine (P.out).mono ?_
      rintro e w6 ⟨A6, c6, vs6, rfl, hM, hb6⟩
      have HM := Lib.hid hM
      have z5 := hbk.size
      have z6 := hb.size
      clear hM
      go_wp2_with fail
      go_ret2
      exact ⟨A6, c6, vs6, rfl, HM.out.low (by omega) (Nat.le_refl _), Ext.then_ hb (Ext.then_ hbk hb6)⟩
end Go.Proofs.Ytbkgmegpgnmlpaa
