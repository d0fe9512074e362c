/- Spots sorted along a curve: the program's. -/
import Derived.Test.YtbkgmegpgnmlpaaSrt
import Derived.Test.YtbkgmegpgnmlpaaSrtP
import Derived.Test.YtbkgmegpgnmlpaaIdxF
import Derived.Deep.RegionHeld3
import Derived.Laws.EntriesVeiled
import Derived.Shelf.SlSortCmp.NoneTotal
namespace Go.Proofs.Ytbkgmegpgnmlpaa
open Go.RowKit

/-- A slice of spots of a law's or a call's own. -/
def spA (p : Int × Int) : Value := .agg #[.int .i64 p.1, .int .i64 p.2]
theorem gp_at {L : List (Int × Int)} {k : Nat} (h : k < L.length) : L[k] = gp L k := by rw [gp, List.getD_eq_getElem?_getD, List.getElem?_eq_getElem h]; rfl
set_option maxRecDepth 100000 in
set_option maxHeartbeats 400000 in
theorem indexFuncS_any (g c n : Nat) (K : FuncId) (caps : Array Value) (L : List (Int × Int)) (f : Int × Int → Bool) (w : World) (hA : SpAt w g L) (hl : L.length = n) (hn : n ≤ 1000000000) (hK : Enters K)
    (hF : ∀ p ∈ L, ∀ wr, Below w.heap.size w wr → Calls Try.prog K (#[spA p] ++ caps) wr fun e w' => e = .returned (.bool (f p)) ∧ Below wr.heap.size wr w') :
    Calls Try.prog 108 #[.slice (some ⟨g, 0, none⟩) n c, .func (.func K) #[] caps] w fun e w' => (∃ r : Int, e = .returned (.int .i64 r) ∧ IdxF (fun i => f (gp L i)) n r) ∧ Below w.heap.size w w' := by
  have FH := Lib.hid hF
  have AH := Lib.hid (fun V (hb : Below w.heap.size w V) => hA.ext hb)
  have HL := Lib.hid hl
  clear hF hl hA
  unfold Enters at hK
  go_enter Try.func108, Try.ntmps108
  go_wp2_with fail
  go_loopw [8] (fun i wr => ∃ k : Nat, k ≤ n ∧ i = .int .i64 k ∧ Hid (∀ j, j < k → f (gp L j) = false) ∧ Below w.heap.size w wr) (fun i _ => n - (intOf i).toNat)
  case atStart => exact ⟨0, Nat.zero_le _, rfl, fun j h => absurd h (Nat.not_lt_zero _), Ext.refl _⟩
  case round =>
    obtain ⟨k, hk, rfl, hno, hb⟩ := hrel
    by_cases hlt : k < n
    · have hkv : k < L.length := by rw [HL.out]; exact hlt
      have hS := AH.out wr hb
      obtain ⟨c1, c2⟩ := hS.2 k hkv
      have hg := hS.1
      have C := FH.out L[k] (List.getElem_mem _) wr hb
      rw [gp_at hkv] at c1 c2 C
      have i0 : (0 : Int) ≤ (k : Int) := by omega
      have i1 : (k : Int) < (n : Int) := by omega
      obtain ⟨bk, hbk⟩ : ∃ x, f (gp L k) = x := ⟨_, rfl⟩
      have HB := Lib.hid hbk
      rw [hbk] at C
      clear hbk
      generalize gp L k = p at C c1 c2
      obtain ⟨px, py⟩ := p
      unfold spA at C
      simp only at c1 c2 C
      have C := Lib.hid C
      clear hS
      cases bk
      · go_wp2_with fail
        refine (C.out).mono ?_
        rintro e w2 ⟨rfl, hb2⟩
        go_wp2_with fail
        go_roundw
        case rel => exact ⟨k + 1, by omega, by go_num, fun j hj => (by rcases Nat.lt_succ_iff_lt_or_eq.1 hj with h | h; exact hno j h; rw [h]; exact HB.out), Ext.then_ hb hb2⟩
        case measure => simp [intOf]; omega
      · go_wp2_with fail
        refine (C.out).mono ?_
        rintro e w2 ⟨rfl, hb2⟩
        have R : Hid (IdxF (fun i => f (gp L i)) n k) := .inl ⟨k, rfl, hlt, HB.out, hno⟩
        clear hno
        go_wp2_with fail
        go_ret
        exact ⟨⟨_, rfl, R.out⟩, Ext.then_ hb hb2⟩
    · obtain rfl : k = n := by omega
      have R : Hid (IdxF (fun i => f (gp L i)) k (-1)) := .inr ⟨rfl, hno⟩
      clear hno
      go_wp2_with fail
      go_ret
      exact ⟨⟨_, rfl, R.out⟩, hb⟩
theorem any_gp {L : List (Int × Int)} {n : Nat} (h : L.length = n) (f : Int × Int → Bool) : (List.range n).any (fun i => f (gp L i)) = L.any f := by
  subst h
  rw [Bool.eq_iff_iff, List.any_eq_true, List.any_eq_true]
  constructor
  · rintro ⟨i, hi, hb⟩
    rw [List.mem_range] at hi
    exact ⟨L[i], List.getElem_mem _, by rw [gp_at hi]; exact hb⟩
  · rintro ⟨p, hp, hb⟩
    obtain ⟨i, hi, rfl⟩ := List.getElem_of_mem hp
    exact ⟨i, List.mem_range.2 hi, by rw [← gp_at hi]; exact hb⟩
set_option maxRecDepth 100000 in
set_option maxHeartbeats 400000 in
theorem containsFuncS_any (g c n : Nat) (K : FuncId) (caps : Array Value) (L : List (Int × Int)) (f : Int × Int → Bool) (w : World) (hA : SpAt w g L) (hl : L.length = n) (hn : n ≤ 1000000000) (hK : Enters K)
    (hF : ∀ p ∈ L, ∀ wr, Below w.heap.size w wr → Calls Try.prog K (#[spA p] ++ caps) wr fun e w' => e = .returned (.bool (f p)) ∧ Below wr.heap.size wr w') :
    Calls Try.prog 95 #[.slice (some ⟨g, 0, none⟩) n c, .func (.func K) #[] caps] w fun e w' => e = .returned (.bool (L.any f)) ∧ Below w.heap.size w w' := by
  have C := Lib.hid (indexFuncS_any g c n K caps L f w hA hl hn hK hF)
  have AG := Lib.hid (any_gp hl f)
  clear hF hA hl hK
  go_enter Try.func95, Try.ntmps95
  go_wp2_with fail
  refine (C.out).mono ?_
  rintro e w2 ⟨⟨r, rfl, hr⟩, hb2⟩
  have E := Lib.hid hr.any
  clear hr
  go_wp2_with fail
  go_ret
  exact ⟨ret_bool (by rw [← AG.out, ← E.out]), hb2⟩

theorem enters_all1 : Enters 96 := enters_of Try.func96 (by kernel_rfl) (by kernel_rfl)
set_option maxHeartbeats 400000 in
theorem all1_any (bf : Nat) (K : FuncId) (caps : Array Value) (b : Bool) (px py : Int) (w : World) (hc : w.cell? ⟨bf, 0, none⟩ = some (.func (.func K) #[] caps)) (hlt : bf < w.heap.size) (hK : Enters K)
    (hF : ∀ wr, Below w.heap.size w wr → Calls Try.prog K (#[.agg #[.int .i64 px, .int .i64 py]] ++ caps) wr fun e w' => e = .returned (.bool b) ∧ Below wr.heap.size wr w') :
    Calls Try.prog 96 #[.agg #[.int .i64 px, .int .i64 py], .pointer (some ⟨bf, 0, none⟩)] w fun e w' => e = .returned (.bool (!b)) ∧ Below w.heap.size w w' := by
  obtain ⟨wB, hwB⟩ : ∃ wB, w.alloc (.cells #[.int .i64 px, .int .i64 py] 29) = wB := ⟨_, rfl⟩
  have T1 : Blk wB w.heap.size 29 #[.int .i64 px, .int .i64 py] := by rw [← hwB]; exact Blk.made w _ _
  have B1 : Below w.heap.size w wB := by rw [← hwB]; exact Ext.more (Ext.refl _) _
  have z2 : wB.heap.size = w.heap.size + 1 := by rw [← hwB]; simp
  have k2 := (B1.cell (p := ⟨bf, 0, none⟩) hlt).trans hc
  have k0 := T1.cell 0
  have k1 := T1.cell 1
  simp at k0 k1
  have C := Lib.hid (hF _ B1)
  unfold Enters at hK
  clear hF hc T1 z2
  go_enter Try.func96, Try.ntmps96
  go_wp2_with fail
  try simp only [hwB]
  refine (C.out).mono ?_
  rintro e w2 ⟨rfl, hb2⟩
  go_wp2_with fail
  go_ret
  exact ⟨rfl, Ext.then_ B1 hb2⟩
set_option maxHeartbeats 400000 in
theorem all_any (g c n : Nat) (K : FuncId) (caps : Array Value) (L : List (Int × Int)) (f : Int × Int → Bool) (w : World) (hA : SpAt w g L) (hl : L.length = n) (hn : n ≤ 1000000000) (hK : Enters K)
    (hF : ∀ p ∈ L, ∀ wr, Below w.heap.size w wr → Calls Try.prog K (#[spA p] ++ caps) wr fun e w' => e = .returned (.bool (f p)) ∧ Below wr.heap.size wr w') :
    Calls Try.prog 84 #[.slice (some ⟨g, 0, none⟩) n c, .func (.func K) #[] caps] w fun e w' => e = .returned (.bool (L.all f)) ∧ Below w.heap.size w w' := by
  obtain ⟨wB, hwB⟩ : ∃ wB, w.alloc (.cells #[.func (.func K) #[] caps] 70) = wB := ⟨_, rfl⟩
  have T : Blk wB w.heap.size 70 #[.func (.func K) #[] caps] := by rw [← hwB]; exact Blk.made w _ _
  have B : Below w.heap.size w wB := by rw [← hwB]; exact Ext.more (Ext.refl _) _
  have C := Lib.hid (containsFuncS_any g c n 96 #[.pointer (some ⟨w.heap.size, 0, none⟩)] L (fun p => !(f p)) wB (hA.ext B) hl hn enters_all1 (fun p hp wr hb => by
    have hc := (T.under hb T.lt).cell 0
    simp at hc
    exact all1_any w.heap.size K caps (f p) p.1 p.2 wr hc (T.under hb T.lt).lt hK (fun V hV => hF p hp V (Ext.then_ B (Ext.then_ hb hV)))))
  have E : Hid (L.all f = !(L.any fun p => !(f p))) := by rw [Hid, List.not_any_eq_all_not]; simp
  rw [E.out]
  generalize (L.any fun p => !(f p)) = b at *
  clear hF hA E T
  go_enter Try.func84, Try.ntmps84
  go_wp2_with fail
  try simp only [hwB]
  refine (C.out).mono ?_
  rintro e w2 ⟨rfl, hb2⟩
  go_wp2_with fail
  go_ret
  exact ⟨rfl, Ext.then_ B hb2⟩
theorem enters_srt1 : Enters 85 := enters_of Try.func85 (by kernel_rfl) (by kernel_rfl)
set_option maxHeartbeats 400000 in
theorem srt1_any (bo : Nat) (o px py : Int) (w : World) (h0 : 0 ≤ o) (h4 : o ≤ 4) (hc : w.cell? ⟨bo, 0, none⟩ = some (.int .i64 o)) (hlt : bo < w.heap.size) :
    Calls Try.prog 85 #[.agg #[.int .i64 px, .int .i64 py], .pointer (some ⟨bo, 0, none⟩)] w fun e w' => e = .returned (.bool (onB o (px, py))) ∧ Below w.heap.size w w' := by
  obtain ⟨wB, hwB⟩ : ∃ wB, w.alloc (.cells #[.int .i64 px, .int .i64 py] 29) = wB := ⟨_, rfl⟩
  have T1 : Blk wB w.heap.size 29 #[.int .i64 px, .int .i64 py] := by rw [← hwB]; exact Blk.made w _ _
  have B1 : Below w.heap.size w wB := by rw [← hwB]; exact Ext.more (Ext.refl _) _
  have z2 : wB.heap.size = w.heap.size + 1 := by rw [← hwB]; simp
  have k2 := (B1.cell (p := ⟨bo, 0, none⟩) hlt).trans hc
  have k0 := T1.cell 0
  have k1 := T1.cell 1
  simp at k0 k1
  have OC := Lib.hid (fun V => onCurve_any o px py V h0 h4)
  have E : Hid (onB o (px, py) = (inB px 0 (side o - 1) && inB py 0 (side o - 1))) := rfl
  rw [E.out]
  generalize (inB px 0 (side o - 1) && inB py 0 (side o - 1)) = b at *
  clear hc E T1 z2
  go_enter Try.func85, Try.ntmps85
  go_wp2_with fail
  try simp only [hwB]
  refine (OC.out _).mono ?_
  rintro e w2 ⟨rfl, rfl⟩
  go_wp2_with fail
  go_ret
  exact ⟨rfl, Ext.more B1 _⟩

theorem addr_add (g j : Nat) : (⟨g, 0, none⟩ : Addr).add j = ⟨g, j, none⟩ := by unfold Addr.add; split <;> simp_all
theorem SpAt.cells {w : World} {g : Nat} {L : List (Int × Int)} (h : SpAt w g L) : ∀ j u, (spL L)[j]? = some u → w.cell? ((⟨g, 0, none⟩ : Addr).add j) = some u := by
  intro j u hu
  rw [addr_add]
  have hj : j < (spL L).length := by
    rcases Nat.lt_or_ge j (spL L).length with h | h
    · exact h
    · rw [List.getElem?_eq_none h] at hu; cases hu
  rw [spL_length] at hj
  have hi : j / 2 < L.length := by omega
  rcases Nat.mod_two_eq_zero_or_one j with e | e
  · rw [show j = j / 2 * 2 from by omega] at hu ⊢
    rw [spL_fst, List.getElem?_eq_getElem hi] at hu
    rw [(h.2 _ hi).1]; exact hu
  · rw [show j = j / 2 * 2 + 1 from by omega] at hu ⊢
    rw [spL_snd, List.getElem?_eq_getElem hi] at hu
    rw [(h.2 _ hi).2]; exact hu
theorem spL_one (L : List (Int × Int)) : ∀ u ∈ spL L, u.oneCell' = true := by
  induction L with
  | nil => intro u hu; simp [spL] at hu
  | cons p r ih =>
    intro u hu
    rw [spL, List.mem_cons, List.mem_cons] at hu
    rcases hu with rfl | rfl | h
    · rfl
    · rfl
    · exact ih u h
/-- A slice of a call's own, not nil. -/
theorem own_some {w : World} {base : Nat} {e : TypeId} {size : Nat} {v : Value} {n : Nat} {xs : List Value} (h : w.ownsRow base e size v n xs) (hv : v ≠ .slice none 0 0) : ∃ g cap, v = .slice (some ⟨g, 0, none⟩) n cap := by
  rcases h.2 with ⟨h1, _⟩ | ⟨g, cap, cur, h1, _⟩
  · exact absurd h1 hv
  · exact ⟨g, cap, h1⟩
theorem own_spots {w : World} {base g cap n : Nat} {e : TypeId} {L : List (Int × Int)} (h : w.ownsRow base e 2 (.slice (some ⟨g, 0, none⟩) n cap) n (spL L)) (hn : L.length = n) : SpAt w g L := by
  refine ⟨(h.lt g rfl).2, fun i hi => ⟨?_, ?_⟩⟩
  · rw [h.cellAt _ (by omega), spL_fst, List.getElem?_eq_getElem hi]; rfl
  · rw [h.cellAt _ (by omega), spL_snd, List.getElem?_eq_getElem hi]; rfl
/-- append of a whole slice, at a plain list of operations. -/
theorem wpList_appM {T e : TypeId} {z : Value} {size bytes : Nat} (E : ElemT T e z size bytes) {w : World} {ops : Array Oper} {rest : List Oper} {o : Oper} {a : Act} {Q : Exit → Act → World → Prop} (hgd : o.guard = none) (s x : Operand)
    (ho : o.op = .call { callee := .builtin .append, args := #[s, x], argTypes := #[T, T] })
    (base : Nat) (v : Value) (n : Nat) (xs : List Value) (hs : a.eval s = v) (hown : w.ownsRow base e size v n xs)
    (g m c : Nat) (news : List Value) (hx : a.eval x = .slice (some ⟨g, 0, none⟩) m c) (hl : news.length = m * size) (hnews : ∀ j u, news[j]? = some u → w.cell? ((⟨g, 0, none⟩ : Addr).add j) = some u) (h1 : ∀ u ∈ news, u.oneCell' = true)
    (hn : n + m ≤ 1000000000) (hbase : base ≤ w.heap.size) (hv : v ≠ .slice none 0 0)
    (h : ∀ g cap w', w'.ownsRow base e size (.slice (some ⟨g, 0, none⟩) (n + m) cap) (n + m) (xs ++ news) → w.grownBy w' v.ownBlock → wpList Try.prog ops Q rest (a.put o.dst (.slice (some ⟨g, 0, none⟩) (n + m) cap)) w') : wpList Try.prog ops Q (o :: rest) a w := by
  obtain ⟨i0, hi, hz0, hz1, hz2⟩ := info_parts E.info
  have hsm := E.small
  refine wpList_append_own w hgd s x T ho base e i0 z size bytes E.under hi hz0 hz1 hz2 E.cells E.pos v n xs hs hown ⟨g, 0, none⟩ m c news hx hl hnews h1 (by unfold maxLen; omega) ?_ hbase ?_
  · have : (n + m) * bytes ≤ 1000000001 * 64 := Nat.mul_le_mul (by omega) hsm
    omega
  · intro v' w' hown' hg hnil
    obtain ⟨g', c', rfl⟩ := own_some hown' (fun e => hv (hnil.1 e).1)
    exact h g' c' w' hown' hg
set_option maxRecDepth 100000 in
set_option maxHeartbeats 1000000 in
theorem cloneS_any (g c n : Nat) (L : List (Int × Int)) (w : World) (h : SpAt w g L) (hl : L.length = n) (hn : n ≤ 1000000000) :
    Calls Try.prog 86 #[.slice (some ⟨g, 0, none⟩) n c] w fun e w' => ∃ g' c', e = .returned (.slice (some ⟨g', 0, none⟩) n c') ∧ w'.ownsRow w.heap.size 29 2 (.slice (some ⟨g', 0, none⟩) n c') n (spL L) ∧ Below w.heap.size w w' := by
  obtain ⟨wB, hwB⟩ : ∃ wB, w.alloc (.cells #[] 29) = wB := ⟨_, rfl⟩
  have B : Below w.heap.size w wB := by rw [← hwB]; exact Ext.more (Ext.refl _) _
  have O : Hid (wB.ownsRow w.heap.size 29 2 (.slice (some ⟨w.heap.size, 0, none⟩) 0 0) 0 []) := by rw [← hwB]; exact World.ownsRow_lit (e := 29) (size := 2) w #[] 0 (Nat.le_refl _) (by decide) rfl
  have C := Lib.hid (h.ext B).cells
  have hlen : (spL L).length = n * 2 := by rw [spL_length, hl]; omega
  have HL := Lib.hid hlen
  have H1 := Lib.hid (spL_one L)
  clear hl hlen h
  generalize spL L = xs at *
  have q22 : ∀ (w : World) (a : Option Addr) (n c n' c' : Nat), (binOp .eql 50 (.slice a n c) (.slice none n' c')).run Try.prog w = .ok (.bool a.isNone) w := fun w a n c n' c' => Lib.run_eql_slice_nil w _ _ a n c n' c' Try.underlying50
  go_enter Try.func86, Try.ntmps86
  go_wp2_with (at_builtin; (try simp only [hwB]); refine wpList_appM spotT (by rfl) _ _ (by rfl) w.heap.size (.slice (some ⟨w.heap.size, 0, none⟩) 0 0) 0 [] (by rfl) O.out g n c xs (by rfl) HL.out C.out H1.out (by omega) B.size (by intro h; cases h) ?_; intro g' c' w' hown hg)
  have B2 : Below w.heap.size w w' := B.grown hg B.size (fun z hz => by cases hz; exact Nat.le_refl _)
  have HO := Lib.hid hown
  clear hown hg O B
  go_ret
  exact ⟨g', c', rfl, by simpa using HO.out, B2⟩

theorem ext_of_alloc {V w' : World} {o : Obj} (h : V.alloc o = w') : Below V.heap.size V w' := by rw [← h]; exact Ext.more (Ext.refl _) _
open Go.Sort in
theorem grow4 (W : World) (a b c d : Obj) : ((((W.alloc a).alloc b).drew).alloc c).alloc d = grow (W.drewN 1) #[a, b, c, d] := by
  simp only [alloc_eq_grow, grow_grow, drew_grow]
  rfl
theorem enters_srt2 : Enters 88 := enters_of Try.func88 (by kernel_rfl) (by kernel_rfl)
set_option maxRecDepth 100000 in
set_option maxHeartbeats 1000000 in
theorem srt2_any (bc bo : Nat) (c o px py qx qy : Int) (w : World) (hc0 : 0 ≤ c) (hc3 : c ≤ 3) (h0 : 0 ≤ o) (h4 : o ≤ 4) (hc : w.cell? ⟨bc, 0, none⟩ = some (.int .i64 c)) (ho : w.cell? ⟨bo, 0, none⟩ = some (.int .i64 o)) (lc : bc < w.heap.size) (lo : bo < w.heap.size)
    (hp : onB o (px, py) = true) (hq : onB o (qx, qy) = true) :
    Calls Try.prog 88 #[.agg #[.int .i64 px, .int .i64 py], .agg #[.int .i64 qx, .int .i64 qy], .pointer (some ⟨bc, 0, none⟩), .pointer (some ⟨bo, 0, none⟩)] w fun e w' => e = .returned (.int .i64 (Lib.compareInt (idxI c o px py) (idxI c o qx qy))) ∧ ∃ k os', w' = Go.Sort.grow (w.drewN k) os' := by
  obtain ⟨wB, hwB⟩ : ∃ wB, (w.alloc (.cells #[.int .i64 px, .int .i64 py] 29)).alloc (.cells #[.int .i64 qx, .int .i64 qy] 29) = wB := ⟨_, rfl⟩
  have T1 : Blk wB w.heap.size 29 #[.int .i64 px, .int .i64 py] := by rw [← hwB]; exact (Blk.made w _ _).more _
  have T2 : Blk wB (w.heap.size + 1) 29 #[.int .i64 qx, .int .i64 qy] := by
    have := Blk.made (w.alloc (.cells #[.int .i64 px, .int .i64 py] 29)) 29 #[.int .i64 qx, .int .i64 qy]
    rw [hwB] at this; simpa using this
  have B1 : Below w.heap.size w wB := by rw [← hwB]; exact Ext.more (Ext.more (Ext.refl _) _) _
  have z2 : wB.heap.size = w.heap.size + 2 := by rw [← hwB]; simp
  have IX := Lib.hid (fun x y V (h : onB o (x, y) = true) => by
    have := onB_iff.1 h
    exact indexOf_any c o x y V hc0 hc3 h0 h4 this.1.1 (by omega) this.2.1 (by omega))
  have CC := Lib.hid (fun x y V => Try.cmp_Compare_int x y V)
  have k0 := (B1.cell (p := ⟨bc, 0, none⟩) lc).trans hc
  have k1 := (B1.cell (p := ⟨bo, 0, none⟩) lo).trans ho
  have k2 := T1.cell 0
  have k3 := T1.cell 1
  have k4 := T2.cell 0
  have k5 := T2.cell 1
  simp at k2 k3 k4 k5
  have l1 := T1.lt
  have l2 := T2.lt
  have l3 : bc < wB.heap.size := by omega
  have l4 : bo < wB.heap.size := by omega
  have I1 := Lib.hid (fun V => IX.out px py V hp)
  have I2 := Lib.hid (fun V => IX.out qx qy V hq)
  generalize idxI c o px py = ip at *
  generalize idxI c o qx qy = iq at *
  have HW := Lib.hid hwB
  clear T1 T2 B1 hc ho z2 IX
  go_enter Try.func88, Try.ntmps88
  go_wp2_with fail
  try simp only [HW.out]
  go_region_held3 (fun w' => w'.cell? ⟨bc, 0, none⟩ = some (.int .i64 c) ∧ w'.cell? ⟨bo, 0, none⟩ = some (.int .i64 o) ∧ w'.cell? ⟨w.heap.size, 0, none⟩ = some (.int .i64 px) ∧ w'.cell? ⟨w.heap.size, 1, none⟩ = some (.int .i64 py) ∧ w'.cell? ⟨w.heap.size + 1, 0, none⟩ = some (.int .i64 qx) ∧ w'.cell? ⟨w.heap.size + 1, 1, none⟩ = some (.int .i64 qy))
    (first | ((go_split_ands; refine ⟨?_, ?_, ?_, ?_, ?_, ?_⟩ <;> exact (hb'.cell (p := ⟨_, _, none⟩) (by first | omega | (simp; omega) | simp)).trans (by assumption))) | go_keep)
    (first
      | (go_at_call_of 53 (Value.agg #[Value.int .i64 px, Value.int .i64 py]); refine (I1.out _).mono ?_; rintro e w3 ⟨rfl, q3⟩; have e3 := Lib.hid q3; have hb' := ext_of_alloc q3; have z3 : wB.heap.size ≤ w3.heap.size := hb'.size; clear q3)
      | (go_at_call_of 53 (Value.agg #[Value.int .i64 qx, Value.int .i64 qy]); refine (I2.out _).mono ?_; rintro e w4 ⟨rfl, q4⟩; have e4 := Lib.hid q4; have hb' := ext_of_alloc q4; clear q4)
      | (go_at_call 89; refine (CC.out _ _ _).mono ?_; rintro e w5 ⟨rfl, rfl⟩))
  go_wp2_with fail
  go_ret
  exact ⟨rfl, 1, _, by rw [← e4.out, ← e3.out, ← HW.out]; exact grow4 _ _ _ _ _⟩

/-- Spots of a square. -/
abbrev SqSp (o : Int) := { p : Int × Int // onB o p = true }
def encSq (o : Int) (x : SqSp o) : List Value := [.int .i64 x.1.1, .int .i64 x.1.2]
def cfSq (c o : Int) (x y : SqSp o) : Int := Lib.compareInt (idxI c o x.1.1 x.1.2) (idxI c o y.1.1 y.1.2)
section
open Go.Sort
variable {c o : Int}
theorem ltSq (x y : SqSp o) : ltOf (cfSq c o) x y = decide (idxI c o x.1.1 x.1.2 < idxI c o y.1.1 y.1.2) := by
  unfold ltOf cfSq Lib.compareInt
  generalize idxI c o x.1.1 x.1.2 = a
  generalize idxI c o y.1.1 y.1.2 = b
  by_cases h1 : a < b
  · simp [h1]
  · by_cases h2 : b < a <;> simp [h1, h2]
theorem swoSq : SWO (ltOf (cfSq c o)) where
  irrefl x := by rw [ltSq]; simp
  trans x y z h1 h2 := by rw [ltSq] at *; simp at *; omega
  ntrans x y z h1 h2 := by rw [ltSq] at *; simp at *; omega
end
theorem sideN {o : Int} (h0 : 0 ≤ o) (h4 : o ≤ 4) : side o = (side o).toNat := by have := side_pos h0 h4; omega
theorem oneSq {c o : Int} (hc0 : 0 ≤ c) (hc3 : c ≤ 3) (h0 : 0 ≤ o) (h4 : o ≤ 4) (x y : SqSp o) (h1 : ltOf (cfSq c o) x y = false) (h2 : ltOf (cfSq c o) y x = false) : x = y := by
  rw [ltSq] at h1 h2
  simp at h1 h2
  have e : idxI c o x.1.1 x.1.2 = idxI c o y.1.1 y.1.2 := by omega
  have ex := gp_ix hc0 hc3 h0 h4 (sideN h0 h4) x.2
  have ey := gp_ix hc0 hc3 h0 h4 (sideN h0 h4) y.2
  rw [e, ey] at ex
  exact Subtype.ext ex.symm
open Go.Sort in
theorem flatSq {o : Int} [Inhabited (SqSp o)] (L : List (SqSp o)) : flatK (encSq o) 2 L.toArray = (spL (L.map (·.1))).toArray := by
  apply Array.ext
  · simp [spL_length]; omega
  · intro i h1 h2
    have hi : i < L.length * 2 := by simpa using h1
    have hi2 : i / 2 < L.length := by omega
    have e : (flatK (encSq o) 2 L.toArray)[i] = (encSq o L[i / 2])[i % 2]! := by
      rw [← getElem!_pos (flatK (encSq o) 2 L.toArray) i h1, get_flatK _ _ _ _ (by simpa using hi), getElem!_pos L.toArray (i / 2) (by simpa using hi2), List.getElem_toArray]
    rw [e, List.getElem_toArray]
    apply Option.some.inj
    rw [← List.getElem?_eq_getElem]
    rcases Nat.mod_two_eq_zero_or_one i with e2 | e2
    · have := spL_fst (L.map (·.1)) (i / 2)
      rw [show i / 2 * 2 = i from by omega] at this
      rw [this, e2, List.getElem?_map, List.getElem?_eq_getElem hi2]; rfl
    · have := spL_snd (L.map (·.1)) (i / 2)
      rw [show i / 2 * 2 + 1 = i from by omega] at this
      rw [this, e2, List.getElem?_map, List.getElem?_eq_getElem hi2]; rfl
section
open Go.Sort
/-- What an own slice holds, in the sort's words. -/
theorem own_holdsV {w : World} {base g cap n size : Nat} {e : TypeId} {xs : List Value} (h : w.ownsRow base e size (.slice (some ⟨g, 0, none⟩) n cap) n xs) : Holds id w g 0 xs.toArray ∧ g < w.heap.size := by
  refine ⟨fun j hj => ?_, (h.lt g rfl).2⟩
  have hj' : j < xs.length := by simpa using hj
  refine ⟨?_, ?_⟩
  · rw [Nat.zero_add, h.cellAt j (by have := h.1; omega)]
    simp [hj']
  · rw [Nat.zero_add]; exact h.frozenAt j
theorem own_putV {w : World} {base g cap n m size : Nat} {e : TypeId} {os : Array Obj} {xs ys : List Value} (h : w.ownsRow base e size (.slice (some ⟨g, 0, none⟩) n cap) n xs) (hm : ys.length = n * size) :
    (grow (putRow id (Sort.ahead w m) g 0 ys.toArray) os).ownsRow base e size (.slice (some ⟨g, 0, none⟩) n cap) n ys := by
  rcases h.2 with ⟨hv, _⟩ | ⟨g', cap', cur, hv, hbase, hb, h1, h2, h3, h4⟩
  · cases hv
  · simp only [Value.slice.injEq, Option.some.injEq, Addr.mk.injEq] at hv
    obtain ⟨⟨rfl, _⟩, _, rfl⟩ := hv
    refine ⟨hm, .inr ⟨g, cap, _, rfl, hbase, heap_put _ hb, h1, h2, by simp [putCells, h3], ?_⟩⟩
    have : ys.length ≤ cur.size := by rw [hm, h3]; exact Nat.mul_le_mul_right _ h1
    rw [← hm, take_put cur ys this]
    simp
end
/-- Sorted spots of a square, by their indices. -/
theorem sorted_sq {c o : Int} (hc0 : 0 ≤ c) (hc3 : c ≤ 3) (h0 : 0 ≤ o) (h4 : o ≤ 4) (L : List (SqSp o)) :
    (L.mergeSort fun x y => !(ltOf (cfSq c o)) y x).map (·.1) = sSp c o (L.map (·.1)) := by
  have hp := List.mergeSort_perm L (fun x y => !(ltOf (cfSq c o)) y x)
  have hs := List.pairwise_mergeSort (le := fun x y => !(ltOf (cfSq c o)) y x) (fun a b d h1 h2 => by simp only [ltSq] at *; simp at *; omega) (fun a b => by simp only [ltSq]; simp; omega) L
  generalize (L.mergeSort fun x y => !(ltOf (cfSq c o)) y x) = M at *
  have hb := ixL_bd h0 h4 (sideN h0 h4) (c := c) (ps := L.map (·.1)) (by
    intro p hp
    obtain ⟨x, _, rfl⟩ := List.mem_map.1 hp
    exact x.2)
  have e1 : M.map (fun x => idxI c o x.1.1 x.1.2) = sIx c o (L.map (·.1)) := by
    rw [sIx, srt_eq hb]
    have hp2 : (M.map (fun x => idxI c o x.1.1 x.1.2)).Perm ((ixL c o (L.map (·.1))).mergeSort fun x y => decide (x ≤ y)) := by
      refine List.Perm.trans ?_ (List.mergeSort_perm _ _).symm
      have := hp.map (fun x : SqSp o => idxI c o x.1.1 x.1.2)
      rw [ixL, List.map_map]
      exact this
    have hs1 := List.pairwise_mergeSort (le := fun x y : Int => decide (x ≤ y)) (fun a b c h1 h2 => by simp at *; omega) (fun a b => by simp; omega) (ixL c o (L.map (·.1)))
    refine List.Perm.eq_of_pairwise (le := fun x y : Int => decide (x ≤ y) = true) ?_ ?_ hs1 hp2
    · intro a b _ _ h1 h2
      simp at h1 h2
      omega
    · rw [List.pairwise_map]
      exact hs.imp (fun h => by simp only [ltSq] at h; simpa using h)
  rw [sSp, ← e1, List.map_map]
  apply List.map_congr_left
  intro x _
  exact (gp_ix hc0 hc3 h0 h4 (sideN h0 h4) x.2).symm
theorem sSp_len {c o : Int} (h0 : 0 ≤ o) (h4 : o ≤ 4) {L : List (Int × Int)} (h : ∀ p ∈ L, onB o p = true) : (sSp c o L).length = L.length := by
  rw [sSp, List.length_map, sIx, srtTo_len (ixL_bd h0 h4 (sideN h0 h4) h), ixL, List.length_map]
set_option maxHeartbeats 1000000 in
theorem sortSp_any {base g cap n : Nat} {c o : Int} {L : List (Int × Int)} (bc bo : Nat) (w : World) (hc0 : 0 ≤ c) (hc3 : c ≤ 3) (h0 : 0 ≤ o) (h4 : o ≤ 4) (h : w.ownsRow base 29 2 (.slice (some ⟨g, 0, none⟩) n cap) n (spL L)) (hn : L.length = n) (hb : n ≤ 1000000000) (hL : ∀ p ∈ L, onB o p = true)
    (hc : w.cell? ⟨bc, 0, none⟩ = some (.int .i64 c)) (ho : w.cell? ⟨bo, 0, none⟩ = some (.int .i64 o)) (lc : bc < base) (lo : bo < base) (hB : base ≤ w.heap.size) :
    Calls Try.prog 87 #[.slice (some ⟨g, 0, none⟩) n cap, .func (.func 88) #[] #[.pointer (some ⟨bc, 0, none⟩), .pointer (some ⟨bo, 0, none⟩)]] w fun e w' => e = .returned (.tuple #[]) ∧
      w'.ownsRow base 29 2 (.slice (some ⟨g, 0, none⟩) n cap) n (spL (sSp c o L)) ∧ w.grownBy w' (some g) := by
  have inh : Inhabited (SqSp o) := ⟨⟨(0, 0), onB_iff.2 (by have := side_pos h0 h4; simp; omega)⟩⟩
  obtain ⟨D, rfl⟩ : ∃ D : List (SqSp o), D.map (·.1) = L := ⟨L.attach.map fun p => ⟨p.1, hL p.1 p.2⟩, by rw [List.map_map]; exact List.attach_map_subtype_val L⟩
  have hD : D.length = n := by simpa using hn
  have hg := h.lt g rfl
  obtain ⟨hh1, hh2⟩ := own_holdsV h
  have gr : ∀ (m : Nat) (os : Array Obj) (dk : Array (SqSp o)), w.grownBy (Go.Proofs.sortWorldK (encSq o) 2 w g 0 m dk os) (some g) := fun m os dk => grown_put _
  have C := Try.slices_SortFunc_spots (encSq o) (fun _ => rfl) (fun x v hv => by simp [encSq] at hv; rcases hv with rfl | rfl <;> rfl) (cfSq c o) swoSq 88 #[.pointer (some ⟨bc, 0, none⟩), .pointer (some ⟨bo, 0, none⟩)] g 0 cap D.toArray w enters_srt2
    (fun m os dk _ x y => by
      have G := gr m os dk
      have e1 := G.cell_far ⟨bc, 0, none⟩ (by show bc < _; omega) (by simp; omega)
      have e2 := G.cell_far ⟨bo, 0, none⟩ (by show bo < _; omega) (by simp; omega)
      have hs := G.size
      exact srt2_any bc bo c o x.1.1 x.1.2 y.1.1 y.1.2 _ hc0 hc3 h0 h4 (e1.trans hc) (e2.trans ho) (by omega) (by omega) x.2 y.2)
    (by rw [Go.Sort.HoldsK, flatSq]; exact hh1) hh2 (by simp; omega) (fun x y a b => oneSq hc0 hc3 h0 h4 x y a b)
  rw [show D.toArray.size = n from by simpa using hD] at C
  refine C.mono ?_
  rintro e w' ⟨rfl, m, os, rfl⟩
  refine ⟨rfl, ?_, gr m os _⟩
  have e1 : D.toArray.toList = D := rfl
  rw [e1, Go.Proofs.sortWorldK, Go.Sort.putRowK, flatSq, sorted_sq hc0 hc3 h0 h4]
  exact own_putV h (by rw [spL_length, sSp_len h0 h4 hL]; simp [hD]; omega)
end Go.Proofs.Ytbkgmegpgnmlpaa
