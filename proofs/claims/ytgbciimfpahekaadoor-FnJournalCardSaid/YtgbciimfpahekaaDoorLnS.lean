/- A desk of its own that is drawn: find, set. -/
import Derived.Test.YtgbciimfpahekaaDoorLnD
import Derived.Test.YtgbciimfpahekaaDoorDsk
import Derived.Test.YtgbciimfpahekaaDoorJnR
import Derived.Laws.AppendOwnNone
namespace Go.Proofs.YtgbciimfpahekaaDoor
open Go.RowKit Go.Shelf

theorem grown_le1 {w w' : World} {o : Obj} {r : Option Nat} (h : ((w.alloc o).drew).grownBy w' r) : w.heap.size ≤ w'.heap.size := Nat.le_trans (by simp) (show (w.alloc o).heap.size ≤ w'.heap.size from h.size)
theorem grown_le2 {w w' : World} {o o2 : Obj} {r : Option Nat} (h : (((w.alloc o).alloc o2).drew).grownBy w' r) : w.heap.size ≤ w'.heap.size := Nat.le_trans (by simp; omega) (show ((w.alloc o).alloc o2).heap.size ≤ w'.heap.size from h.size)
theorem le_alloc {w : World} {n : Nat} {o : Obj} (h : n ≤ w.heap.size) : n ≤ (w.alloc o).heap.size := by simp; omega
theorem grown_refl (w : World) (row : Option Nat) : w.grownBy w row := ⟨rfl, rfl, rfl, Nat.le_refl _, fun _ _ _ => rfl⟩
/-- append of a whole slice, nil or not, to one of the call's own that is not nil. -/
theorem wpList_appU {T e : TypeId} {z : Value} {size bytes : Nat} (E : ElemT T e z size bytes) {w : World} {ops : Array Oper} {rest : List Oper} {o : Oper} {a : Act} {Q : Exit → Act → World → Prop} (hgd : o.guard = none) (s x : Operand)
    (ho : o.op = .call { callee := .builtin .append, args := #[s, x], argTypes := #[T, T] })
    (base : Nat) (g0 n c0 : Nat) (xs : List Value) (hs : a.eval s = .slice (some ⟨g0, 0, none⟩) n c0) (hown : w.ownsRow base e size (.slice (some ⟨g0, 0, none⟩) n c0) n xs)
    (A : Option Addr) (m c : Nat) (news : List Value) (hx : a.eval x = .slice A m c) (hA : A = none → m = 0 ∧ c = 0) (hl : news.length = m * size) (hnews : ∀ ad, A = some ad → ∀ j u, news[j]? = some u → w.cell? (ad.add j) = some u) (h1 : ∀ u ∈ news, u.oneCell' = true)
    (N : Nat) (ys : List Value) (hN : n + m = N) (hys : xs ++ news = ys) (hn : N ≤ 1000000000) (hbase : base ≤ w.heap.size)
    (h : ∀ g cap w', w'.ownsRow base e size (.slice (some ⟨g, 0, none⟩) N cap) N ys → w.grownBy w' (some g0) → wpList Tryd.prog ops Q rest (a.put o.dst (.slice (some ⟨g, 0, none⟩) N cap)) w') : wpList Tryd.prog ops Q (o :: rest) a w := by
  subst hN
  subst hys
  obtain ⟨i0, hi, hz0, hz1, hz2⟩ := info_parts E.info
  have hsm := E.small
  cases A with
  | none =>
    obtain ⟨rfl, rfl⟩ := hA rfl
    have hn0 : news = [] := List.length_eq_zero_iff.1 (by rw [hl]; simp)
    subst hn0
    refine wpList_append_own_none hgd s x T ho base e i0 size E.under hi _ n xs hs hown hx ?_
    exact h g0 c0 w (by simpa using hown) (grown_refl _ _)
  | some ad =>
    refine wpList_append_own w hgd s x T ho base e i0 z size bytes E.under hi hz0 hz1 hz2 E.cells E.pos _ n xs hs hown ad m c news hx hl (hnews ad rfl) h1 (by unfold maxLen; omega) ?_ hbase ?_
    · have : (n + m) * bytes ≤ 1000000001 * 64 := Nat.mul_le_mul (by omega) hsm
      omega
    · intro v' w' hown' hg hnil
      have hne : v' ≠ .slice none 0 0 := fun e => by
        have := (hnil.1 e).1
        cases this
      rcases hown'.2 with ⟨e, _⟩ | ⟨g', c', _, rfl, _⟩
      · exact absurd e hne
      · exact h g' c' w' hown' hg
/-- The same at a step of a region that draws its order. -/
theorem step_appU {T e : TypeId} {z : Value} {size bytes : Nat} (E : ElemT T e z size bytes) {w : World} {ops : Array Oper} {o : Oper} {a : Act} {K : Act → World → Prop} {Q : Exit → Act → World → Prop} {F : Prop} (hgd : o.guard = none) (s x : Operand)
    (ho : o.op = .call { callee := .builtin .append, args := #[s, x], argTypes := #[T, T] })
    (base : Nat) (g0 n c0 : Nat) (xs : List Value) (hs : a.eval s = .slice (some ⟨g0, 0, none⟩) n c0) (hown : w.ownsRow base e size (.slice (some ⟨g0, 0, none⟩) n c0) n xs)
    (ad : Addr) (m c : Nat) (news : List Value) (hx : a.eval x = .slice (some ad) m c) (hl : news.length = m * size) (hnews : ∀ j u, news[j]? = some u → w.cell? (ad.add j) = some u) (h1 : ∀ u ∈ news, u.oneCell' = true)
    (N : Nat) (ys : List Value) (hN : n + m = N) (hys : xs ++ news = ys) (hn : N ≤ 1000000000) (hbase : base ≤ w.heap.size)
    (h : ∀ g cap w', w'.ownsRow base e size (.slice (some ⟨g, 0, none⟩) N cap) N ys → w.grownBy w' (some g0) → K (a.put o.dst (.slice (some ⟨g, 0, none⟩) N cap)) w') :
    if Region.wanted o (yielded ops a.tmps) = true then Oper.wp Tryd.prog o a w K Q else F := by
  subst hN
  subst hys
  obtain ⟨i0, hi, hz0, hz1, hz2⟩ := info_parts E.info
  have hsm := E.small
  have hw : Region.wanted o (yielded ops a.tmps) = true := by simp [Region.wanted, hgd]
  rw [if_pos hw]
  refine wp_append_own w s x T ho base e i0 z size bytes E.under hi hz0 hz1 hz2 E.cells E.pos _ n xs hs hown ad m c news hx hl hnews h1 (by unfold maxLen; omega) ?_ hbase ?_
  · have : (n + m) * bytes ≤ 1000000001 * 64 := Nat.mul_le_mul (by omega) hsm
    omega
  · intro v' w' hown' hg hnil
    have hne : v' ≠ .slice none 0 0 := fun e => by
      have := (hnil.1 e).1
      cases this
    rcases hown'.2 with ⟨e, _⟩ | ⟨g', c', _, rfl, _⟩
    · exact absurd e hne
    · exact h g' c' w' hown' hg
theorem picT : ElemT 35 77 (.agg #[.slice none 0 0]) 1 24 := ⟨Tryd.underlying35, by kernel_rfl, rfl, by decide, by decide⟩

/-- The names of a desk, read only. -/
structure NmAt (w : World) (p : Nat) (G : Option Addr) (c : Nat) (names : List ByteArray) : Prop where
  lt : p < w.heap.size
  cell : w.cell? ⟨p, 0, none⟩ = some (.slice G names.length c)
  rd : Rd w G (strs names)
set_option maxHeartbeats 400000 in
theorem find_any (p : Nat) (G : Option Addr) (c : Nat) (names : List ByteArray) (name : ByteArray) (w : World) (h : NmAt w p G c names) (hn : names.length ≤ 1000000) :
    Calls Tryd.prog 61 #[.pointer (some ⟨p, 0, none⟩), .string name] w fun e w' => ((∃ k : Nat, k < names.length ∧ names[k]? = some name ∧ e = .returned (.int .i64 k)) ∨ (name ∉ names ∧ e = .returned (.int .i64 (-1)))) ∧ w = w' := by
  have c0 := h.cell
  have HR := Lib.hid h.rd.str
  obtain ⟨m, hm⟩ : ∃ m, names.length = m := ⟨_, rfl⟩
  have HM := Lib.hid hm
  rw [hm] at c0 hn ⊢
  clear hm h
  go_enter Tryd.func61, Tryd.ntmps61
  go_wp2_with fail
  go_loop [5] (fun iv => ∃ k : Nat, k ≤ m ∧ iv = .int .i64 k ∧ Hid (∀ j, j < k → names[j]? ≠ some name)) (fun iv => m - (intOf iv).toNat)
  case atStart => exact ⟨0, Nat.zero_le _, rfl, fun j hj => by omega⟩
  case round =>
    obtain ⟨k, hk, rfl, hI⟩ := hrel
    by_cases hlt : k < m
    · obtain ⟨g, rfl, hg, hx⟩ := HR.out (by have := HM.out; omega)
      have c1 := hx k (by have := HM.out; omega)
      have hkl : k < names.length := by have := HM.out; omega
      obtain ⟨r, hr⟩ : ∃ r, names[k] = r := ⟨_, rfl⟩
      rw [hr] at c1
      have HRR : Hid (names[k]? = some r) := by rw [Hid, List.getElem?_eq_getElem hkl, hr]
      have i0 : (0 : Int) ≤ (k : Int) := by omega
      have i1 : (k : Int) < (m : Int) := by omega
      clear hx hr hkl
      by_cases he : r = name
      · have t1 := tl_eq he
        have HE := Lib.hid he
        clear he
        go_wp2_with fail
        go_ret
        exact ⟨.inl ⟨k, hlt, by rw [HRR.out, HE.out], rfl⟩, rfl⟩
      · have t1 := tl_ne he
        have HE := Lib.hid he
        clear he
        go_wp2_with fail
        go_round
        case rel => exact ⟨k + 1, by omega, by go_num, fun j hj => by
          by_cases e : j = k
          · subst e; rw [HRR.out]; exact fun h => HE.out (Option.some.inj h)
          · exact hI.out j (by omega)⟩
        case measure => simp [intOf]; omega
    · obtain rfl : k = m := by omega
      go_wp2_with fail
      go_ret
      refine ⟨.inr ⟨fun hm => ?_, rfl⟩, rfl⟩
      obtain ⟨j, hj, e⟩ := List.mem_iff_getElem.1 hm
      exact hI.out j (by have := HM.out; omega) (by rw [List.getElem?_eq_getElem hj, e])
/-- A desk of its own: names and pictures in rows of its own. -/
structure DkO (w : World) (base p : Nat) (names : List ByteArray) (pvs : List Value) (g c g2 c2 : Nat) : Prop where
  blk : Blk w p 37 #[.slice (some ⟨g, 0, none⟩) names.length c, .slice (some ⟨g2, 0, none⟩) names.length c2]
  own : w.ownsRow base 9 1 (.slice (some ⟨g, 0, none⟩) names.length c) names.length (strs names)
  pics : w.ownsRow base 77 1 (.slice (some ⟨g2, 0, none⟩) names.length c2) names.length pvs
  few : names.length ≤ 6
  pl : pvs.length = names.length
  one : ∀ v ∈ pvs, v.oneCell' = true
def SetRes (w : World) (base p : Nat) (names : List ByteArray) (pvs : List Value) (name : ByteArray) (v : Value) (e : Ending) (w' : World) : Prop :=
  e = .returned (.string ⟨#[111, 107]⟩) ∧ Below base w w' ∧ ∃ names' pvs' g c g2 c2, DkO w' base p names' pvs' g c g2 c2 ∧
    ((name ∈ names ∧ names' = names ∧ ∃ k, names[k]? = some name ∧ pvs' = pvs.set k v) ∨
     (name ∉ names ∧ ∃ k, k ≤ names.length ∧ names' = names.take k ++ name :: names.drop k ∧ pvs' = pvs.take k ++ v :: pvs.drop k))
set_option maxRecDepth 100000 in
set_option maxHeartbeats 4000000 in
theorem dset_any (base p : Nat) (names : List ByteArray) (pvs : List Value) (g c g2 c2 : Nat) (name : ByteArray) (A : Option Addr) (H cc : Nat) (w : World) (h : DkO w base p names pvs g c g2 c2) (hp : base ≤ p) (hb : base ≤ w.heap.size) (hn : names.length < 6) (hk : nameOk name = true) (hz : name.size ≤ 1000000) :
    Calls Tryd.prog 52 #[.pointer (some ⟨p, 0, none⟩), .string name, .agg #[.slice A H cc], .bool true] w fun e w' => SetRes w base p names pvs name (.slice A H cc) e w' := by
  obtain ⟨w1, hw1⟩ : ∃ w1, w.alloc (.cells #[.slice A H cc] 77) = w1 := ⟨_, rfl⟩
  have B1 : Below w.heap.size w w1 := by rw [← hw1]; exact Ext.more (Ext.refl _) _
  have X1 : Blk w1 w.heap.size 77 #[.slice A H cc] := by rw [← hw1]; exact Blk.made _ _ _
  have P1 := h.blk.under B1 h.blk.lt
  have O1 := own_ext B1 h.own
  have Q1 := own_ext B1 h.pics
  have hpl := h.pl
  have hone := h.one
  have zp := h.blk.lt
  have z1 : w1.heap.size = w.heap.size + 1 := by rw [← hw1]; simp
  have FD := Lib.hid (find_any p (some ⟨g, 0, none⟩) c names name w1 ⟨P1.lt, (P1.cell 0).trans rfl, Rd.of_own O1⟩ (by omega))
  have NK := Lib.hid (fun V => isNameS_any name V (by omega))
  rw [hk] at NK
  have HW1 := Lib.hid hw1
  clear hw1 h hk
  obtain ⟨m, hm⟩ : ∃ m, names.length = m := ⟨_, rfl⟩
  have HM := Lib.hid hm
  rw [hm] at P1 O1 Q1 hn hpl FD
  clear hm
  go_enter Tryd.func52, Tryd.ntmps52
  go_wp2_with fail
  simp only [HW1.out]
  refine FD.out.mono ?_
  rintro e w2 ⟨hf, rfl⟩
  rcases hf with ⟨k, hk, hkn, rfl⟩ | ⟨hnm, rfl⟩
  · have cp := P1.cell 1
    have cb := X1.cell 0
    simp at cp cb
    have cg := Q1.cellAt k (by omega)
    have fg := Q1.frozenAt k
    have hkp : k < pvs.length := by omega
    rw [List.getElem?_eq_getElem hkp] at cg
    generalize pvs[k] = pv at *
    have i0 : (0 : Int) ≤ (k : Int) := by omega
    have i1 : (k : Int) < (m : Int) := by omega
    have ST := Lib.hid (Q1.stored k (.slice A H cc))
    have HK := Lib.hid hkn
    have PS := Lib.hid (P1.apart (p := ⟨g2, k, none⟩) (fun e => own_blk_ne Q1 P1 (by decide) (by rw [e]; rfl)) (.slice A H cc))
    have OS := Lib.hid (ownsRow_setCell_other O1 (a := ⟨g2, k, none⟩) (own_own_ne Q1 O1 (by decide) rfl) (.slice A H cc))
    have BS := Lib.hid ((Below.mono B1 hb).setCell (p := ⟨g2, k, none⟩) ((Q1.lt g2 rfl).1) (.slice A H cc))
    have OL : Hid (∀ v ∈ pvs.set k (.slice A H cc), v.oneCell' = true) := fun v hv => by
      rcases List.mem_or_eq_of_mem_set hv with h | rfl
      · exact hone v h
      · rfl
    have PL : Hid ((pvs.set k (.slice A H cc)).length = m) := by rw [Hid, List.length_set, hpl]
    clear P1 O1 Q1 B1
    go_wp2_with fail
    go_region
    all_goals
      go_wp2_with fail
      go_ret
      refine ⟨rfl, ⟨BS.out.os, BS.out.tape, BS.out.output, BS.out.size, BS.out.block⟩, names, _, g, c, g2, c2, ?_, .inl ⟨List.mem_of_getElem? HK.out, rfl, k, HK.out, rfl⟩⟩
      have e := HM.out
      exact ⟨by rw [e]; exact PS.out, by rw [e]; exact OS.out, by rw [e]; exact ST.out.1, by omega, by rw [e]; exact PL.out, OL.out⟩
  · have NM := Lib.hid hnm
    have Z1 := Lib.hid z1
    clear FD hnm z1
    have cp := P1.cell 0
    simp at cp
    have t6 : ¬ (6 : Int) ≤ (m : Int) := by omega
    go_wp2_with fail
    refine (NK.out _).mono ?_
    rintro e w3 ⟨rfl, rfl⟩
    have c0 := Lib.hid (fun k (hk : k < m) => show w1.cell? ⟨g, k, none⟩ = some (.string (names.getD k ByteArray.empty)) by
      have := HM.out
      rw [O1.cellAt k (by omega)]; simp [strs, show k < names.length by omega])
    go_wp2_with fail
    go_loop [10] (fun iv => ∃ k : Nat, k ≤ m ∧ iv = .int .i64 k) (fun iv => m - (intOf iv).toNat)
    case atStart => exact ⟨0, Nat.zero_le _, rfl⟩
    case round =>
      obtain ⟨k, hk, rfl⟩ := hrel
      have hcs : (k < m ∧ Op.bytesLess (names.getD k ByteArray.empty).toList name.toList = true) ∨ (k < m ∧ Op.bytesLess (names.getD k ByteArray.empty).toList name.toList = false) ∨ k = m := by
        by_cases hlt : k < m
        · cases hbl : Op.bytesLess (names.getD k ByteArray.empty).toList name.toList
          · exact .inr (.inl ⟨hlt, rfl⟩)
          · exact .inl ⟨hlt, rfl⟩
        · exact .inr (.inr (by omega))
      rcases hcs with ⟨hlt, hbl⟩ | ⟨hlt, hbl⟩ | hkm
      · have c1 := c0.out k hlt
        generalize names.getD k ByteArray.empty = r at *
        have i0 : (0 : Int) ≤ (k : Int) := by omega
        have i1 : (k : Int) < (m : Int) := by omega
        go_wp2_with fail
        go_round
        case rel => exact ⟨k + 1, by omega, by go_num⟩
        case measure => simp [intOf]; omega
      case' inr.inl =>
        have c1 := c0.out k hlt
        generalize names.getD k ByteArray.empty = r at *
        have i0 : (0 : Int) ≤ (k : Int) := by omega
        have i1 : (k : Int) < (m : Int) := by omega
        go_upto_region 12 with fail
        clear c1 i1 hbl hlt
      case' inr.inr =>
        have i0 : (0 : Int) ≤ (k : Int) := by omega
        have i1 : ¬ (k : Int) < (m : Int) := by omega
        go_upto_region 12 with fail
        clear i1 hkm
      all_goals
        have hmc := own_cap O1
        have hmc2 := own_cap Q1
        have k0 : (k : Int) ≤ (c : Int) := by omega
        have k1 : (k : Int) ≤ (m : Int) := by omega
        have k2 : (k : Int) ≤ (c2 : Int) := by omega
        have O58 := Lib.hid (World.ownsRow_lit (e := 9) (size := 1) w1 #[] 0 (Nat.le_refl _) (by decide) rfl)
        have LEN : Hid ((strs (names.take k)).length = k * 1) := by have := HM.out; rw [Hid]; simp [strs]; omega
        have ONE : Hid (∀ u ∈ strs (names.take k), u.oneCell' = true) := fun u hu => by
          obtain ⟨r, _, rfl⟩ := List.mem_map.1 hu
          rfl
        have NEWS : Hid (∀ ad, some (⟨g, 0, none⟩ : Addr) = some ad → ∀ j u, (strs (names.take k))[j]? = some u → (w1.alloc (.cells #[] 9)).cell? (ad.add j) = some u) := fun ad had j u hu => by
          obtain rfl := Option.some.inj had
          have := O1.cells rfl j u (by
            rw [strs, List.map_take, List.getElem?_take] at hu
            split at hu
            · exact hu
            · cases hu)
          rw [← this]
          exact (Below.cell (Ext.more (Ext.refl w1) _) (by rw [Addr.add_block']; exact (O1.lt g rfl).2))
        have ca : (w1.alloc (.cells #[] 9)).cell? ⟨p, 0, none⟩ = some (.slice (some ⟨g, 0, none⟩) m c) := by
          have := (P1.more (.cells #[] 9)).cell 0
          simpa using this
        go_upto_region 13 with (at_builtin; first
          | (refine wpList_appU strT (by rfl) _ _ (by rfl) w1.heap.size w1.heap.size 0 0 [] (by rfl) O58.out (some ⟨g, 0, none⟩) k c (strs (names.take k)) (by rfl) (fun h => nomatch h) LEN.out NEWS.out ONE.out k (strs (names.take k)) (by omega) rfl (by omega) (by simp) ?_; intro g3 cap3 w8 own8 grow8)
          | (refine wpList_app strT (by rfl) _ _ (by rfl) w1.heap.size (.slice (some ⟨g3, 0, none⟩) k cap3) k (strs (names.take k)) (by rfl) (own8.alloc _) w8.heap.size #[.string name] (by rfl) (heap_alloc_new _ _) rfl (by simp [Value.oneCell']) (by omega) (by have := grow8.size; simp at *; omega) ?_; intro g4 cap4 w9 own9 grow9 hat9 hlt9))
        have B8 : Below w1.heap.size w1 w9 := ((Ext.more (Ext.refl w1) (.cells #[] 9)).grown grow8 (by simp) (fun z hz => by obtain rfl := Option.some.inj hz; exact Nat.le_refl _) |>.trans (Ext.more (Ext.refl w8) _ |>.mono (by have := grow8.size; simp at this; omega))).grown grow9 (by have := grow8.size; simp at *; omega) (fun z hz => by have := (own8.lt z hz).1; omega)
        have P9 := P1.under B8 P1.lt
        have X9 := X1.under B8 X1.lt
        have Q9 := own_ext B8 Q1
        clear O58 LEN ONE NEWS ca grow8 own8 grow9 hat9 hlt9
        have CP : ∀ o, (w9.alloc o).cell? ⟨p, 1, none⟩ = some (.slice (some ⟨g2, 0, none⟩) m c2) := fun o => ((P9.more o).cell 1).trans rfl
        have CB : ∀ o, (w9.alloc o).cell? ⟨w.heap.size, 0, none⟩ = some (.slice A H cc) := fun o => ((X9.more o).cell 0).trans rfl
        have CP2 : ∀ o o2, ((w9.alloc o).alloc o2).cell? ⟨p, 1, none⟩ = some (.slice (some ⟨g2, 0, none⟩) m c2) := fun o o2 => (((P9.more o).more o2).cell 1).trans rfl
        have CB2 : ∀ o o2, ((w9.alloc o).alloc o2).cell? ⟨w.heap.size, 0, none⟩ = some (.slice A H cc) := fun o o2 => (((X9.more o).more o2).cell 0).trans rfl
        have CP0 : w9.cell? ⟨p, 1, none⟩ = some (.slice (some ⟨g2, 0, none⟩) m c2) := ((P9).cell 1).trans rfl
        have CB0 : w9.cell? ⟨w.heap.size, 0, none⟩ = some (.slice A H cc) := ((X9).cell 0).trans rfl
        go_cut [12] (fun s12 wx => ∃ g6 cap6, s12 = .slice (some ⟨g6, 0, none⟩) (k + 1) cap6 ∧ wx.ownsRow w9.heap.size 77 1 (.slice (some ⟨g6, 0, none⟩) (k + 1) cap6) (k + 1) (pvs.take k ++ [.slice A H cc]) ∧ Below w9.heap.size w9 wx)
        case first =>
          have O69 := Lib.hid (World.ownsRow_lit (e := 77) (size := 1) w9 #[] 0 (Nat.le_refl _) (by decide) rfl)
          have LEN : Hid ((pvs.take k).length = k * 1) := by rw [Hid]; simp; omega
          have ONE : Hid (∀ u ∈ pvs.take k, u.oneCell' = true) := fun u hu => hone u (List.mem_of_mem_take hu)
          have NEWS : Hid (∀ V, Below w9.heap.size w9 V → ∀ j u, (pvs.take k)[j]? = some u → V.cell? ((⟨g2, 0, none⟩ : Addr).add j) = some u) := fun V hV j u hu => by
            have := Q9.cells rfl j u (by
              rw [List.getElem?_take] at hu
              split at hu
              · exact hu
              · cases hu)
            rw [← this]
            exact hV.cell (by rw [Addr.add_block']; exact (Q9.lt g2 rfl).2)
          have O78 : Hid (((w9.alloc (.cells #[.slice A H cc] 77)).alloc (.cells #[] 77)).ownsRow w9.heap.size 77 1 (.slice (some ⟨w9.heap.size + 1, 0, none⟩) 0 0) 0 []) := by
            have := World.ownsRow_lit (e := 77) (size := 1) (base := w9.heap.size) (w9.alloc (.cells #[.slice A H cc] 77)) #[] 0 (by simp) (by decide) rfl
            simpa [Hid] using this
          go_region_law (first
            | (refine step_appU picT (by rfl) _ _ (by rfl) w9.heap.size w9.heap.size 0 0 [] (by rfl) O69.out ⟨g2, 0, none⟩ k c2 (pvs.take k) (by rfl) LEN.out (NEWS.out _ (Ext.draw (Ext.more (Ext.refl _) _))) ONE.out k (pvs.take k) (by omega) rfl (by omega) (by simp) ?_; intro g5 cap5 w10 own10 grow10; have gz := grown_le1 grow10; have B10 := Below.grown (Ext.draw (Ext.more (Ext.refl w9) _)) grow10 (le_alloc (Nat.le_refl _)) (fun z hz => by have := Option.some.inj hz; omega); have cb10 : w10.cell? ⟨w.heap.size, 0, none⟩ = some (.slice A H cc) := ((Blk.by_grown (Blk.ofDraw (X9.more _)) grow10 (fun e => by have := Option.some.inj e; have := X9.lt; omega)).cell 0).trans rfl)
            | (refine step_appU picT (by rfl) _ _ (by rfl) w9.heap.size w9.heap.size 0 0 [] (by rfl) (O69.out.alloc _) ⟨g2, 0, none⟩ k c2 (pvs.take k) (by rfl) LEN.out (NEWS.out _ (Ext.draw (Ext.more (Ext.more (Ext.refl _) _) _))) ONE.out k (pvs.take k) (by omega) rfl (by omega) (le_alloc (le_alloc (Nat.le_refl _))) ?_; intro g5 cap5 w10 own10 grow10; have gz := grown_le2 grow10; have B10 := Below.grown (Ext.draw (Ext.more (Ext.more (Ext.refl w9) _) _)) grow10 (le_alloc (le_alloc (Nat.le_refl _))) (fun z hz => by have := Option.some.inj hz; omega); have N78 : Blk w10 (w9.heap.size + 1) 77 #[.slice A H cc] := (by have := (Blk.by_grown (Blk.ofDraw (Blk.made (w9.alloc (.cells #[] 77)) 77 #[.slice A H cc])) grow10 (fun e => by have := Option.some.inj e; simp at this)); simpa using this))
            | (refine step_appU picT (by rfl) _ _ (by rfl) w9.heap.size (w9.heap.size + 1) 0 0 [] (by rfl) O78.out ⟨g2, 0, none⟩ k c2 (pvs.take k) (by rfl) LEN.out (NEWS.out _ (Ext.draw (Ext.more (Ext.more (Ext.refl _) _) _))) ONE.out k (pvs.take k) (by omega) rfl (by omega) (le_alloc (le_alloc (Nat.le_refl _))) ?_; intro g5 cap5 w10 own10 grow10; have gz := grown_le2 grow10; have B10 := Below.grown (Ext.draw (Ext.more (Ext.more (Ext.refl w9) _) _)) grow10 (le_alloc (le_alloc (Nat.le_refl _))) (fun z hz => by have := Option.some.inj hz; omega); have N79 : Blk w10 w9.heap.size 77 #[.slice A H cc] := (Blk.by_grown (Blk.ofDraw ((Blk.made w9 77 #[.slice A H cc]).more (.cells #[] 77))) grow10 (fun e => by have := Option.some.inj e; omega)))
            | (refine step_app picT (by rfl) _ _ (by rfl) w9.heap.size (.slice (some ⟨g5, 0, none⟩) k cap5) k (pvs.take k) (by rfl) (own10.alloc _) w10.heap.size #[.slice A H cc] (by rfl) (by exact heap_alloc_new w10 _) rfl (by simp [Value.oneCell']) (by omega) (by first | exact gz | exact le_alloc gz) ?_; intro g6 cap6 w11 own11 grow11 hat11 hlt11)
            | (refine step_app picT (by rfl) _ _ (by rfl) w9.heap.size (.slice (some ⟨g5, 0, none⟩) k cap5) k (pvs.take k) (by rfl) own10 (w9.heap.size + 1) #[.slice A H cc] (by rfl) N78 rfl (by simp [Value.oneCell']) (by omega) (by first | exact gz | exact le_alloc gz) ?_; intro g6 cap6 w11 own11 grow11 hat11 hlt11)
            | (refine step_app picT (by rfl) _ _ (by rfl) w9.heap.size (.slice (some ⟨g5, 0, none⟩) k cap5) k (pvs.take k) (by rfl) own10 w9.heap.size #[.slice A H cc] (by rfl) N79 rfl (by simp [Value.oneCell']) (by omega) (by first | exact gz | exact le_alloc gz) ?_; intro g6 cap6 w11 own11 grow11 hat11 hlt11))
          all_goals
            go_wp2_with fail
            go_meet
            refine ⟨g6, cap6, rfl, own11, ?_⟩
            first
              | exact Below.grown B10 grow11 gz (fun z hz => (own10.lt z hz).1)
              | exact Below.grown (B10.trans (Below.mono (Ext.more (Ext.refl w10) _) gz)) grow11 (le_alloc gz) (fun z hz => (own10.lt z hz).1)
        case rest =>
          obtain ⟨g6, cap6, rfl, O6, B6⟩ := hcut
          obtain ⟨w6, rfl⟩ : ∃ w6 : World, w6 = wc := ⟨_, rfl⟩
          have P6 := P9.under B6 P9.lt
          have O1' := own_ext (Below.mono B6 (Nat.le_refl _)) (own_ext B8 O1)
          have N6 := own_ext B6 own9
          have Q6 := own_ext B6 Q9
          clear CP CB CP2 CB2 CP0 CB0
          have z6 : w1.heap.size ≤ w6.heap.size := Nat.le_trans B8.size B6.size
          have cp6 := P6.cell 0
          simp at cp6
          obtain ⟨d, hd⟩ : ∃ d, m - k = d := ⟨_, rfl⟩
          have DL : Hid ((strs (names.drop k)).length = d * 1) := by have := HM.out; rw [Hid]; simp [strs]; omega
          have DO : Hid (∀ u ∈ strs (names.drop k), u.oneCell' = true) := fun u hu => by
            obtain ⟨r, _, rfl⟩ := List.mem_map.1 hu
            rfl
          have DN : Hid (∀ j u, (strs (names.drop k))[j]? = some u → k < m ∧ w6.cell? ⟨g, k + j, none⟩ = some u) := fun j u hu => by
            have e := HM.out
            have hj : j < (strs (names.drop k)).length := (List.getElem?_eq_some_iff.1 hu).1
            have hj2 : j < m - k := by simp [strs] at hj; omega
            refine ⟨by omega, ?_⟩
            rw [O1'.cellAt (k + j) (by omega), ← hu]
            simp [strs, List.getElem?_drop]
          have B6b : Below base w w6 := ((Below.mono B1 hb).trans (Below.mono B8 (by have := Z1.out; omega))).trans (Below.mono B6 (by have := B8.size; have := Z1.out; omega))
          have zb : base ≤ w1.heap.size := by have := Z1.out; omega
          have OL : Hid (∀ v ∈ pvs.take k ++ .slice A H cc :: pvs.drop k, v.oneCell' = true) := fun v hv => by
            rcases List.mem_append.1 hv with h | h
            · exact hone v (List.mem_of_mem_take h)
            · rcases List.mem_cons.1 h with rfl | h
              · rfl
              · exact hone v (List.mem_of_mem_drop h)
          have EL : Hid ((∀ u ∈ pvs.drop k, u.oneCell' = true) ∧ (pvs.drop k).length = d * 1) := ⟨fun u hu => hone u (List.mem_of_mem_drop hu), by simp; omega⟩
          go_upto_region 15 with (at_builtin; refine wpList_appU strT (by rfl) _ _ (by rfl) w1.heap.size g4 (k + 1) cap4 _ (by rfl) N6 _ _ _ (strs (names.drop k)) (by rfl) (by split <;> intro h <;> cases h) (by rw [DL.out]) (by intro ad had j u hu; obtain ⟨h1, h2⟩ := DN.out j u hu; by_cases hck : c = k <;> simp [hck] at had <;> first | omega | (subst had; rw [Addr.add_lit]; exact h2)) DO.out (m + 1) (strs (names.take k ++ name :: names.drop k)) (by omega) (by simp [strs]) (by omega) z6 ?_; intro g7 cap7 w7 own7 grow7; have P7 := Blk.by_grown P6 grow7 (fun e => own_blk_ne N6 P6 (by decide) (by rw [Option.some.inj e]; rfl)); have cp7 := P7.cell 0; have fp7 := P7.free 0; simp at cp7)
          have P8 : Blk (w7.setCell ⟨p, 0, none⟩ (.slice (some ⟨g7, 0, none⟩) (m + 1) cap7)) p 37 #[.slice (some ⟨g7, 0, none⟩) (m + 1) cap7, .slice (some ⟨g2, 0, none⟩) m c2] := by
            have := P7.store 0 (.slice (some ⟨g7, 0, none⟩) (m + 1) cap7)
            simpa using this
          have O7 := O6.kept grow7 (.inr (own_own_ne N6 O6 (by decide) rfl))
          have Q7 := Q6.kept grow7 (.inr (own_own_ne N6 Q6 (by decide) rfl))
          have O8 := ownsRow_setCell_other O7 (a := ⟨p, 0, none⟩) (own_blk_ne O7 P7 (by decide)) (.slice (some ⟨g7, 0, none⟩) (m + 1) cap7)
          have Q8 := ownsRow_setCell_other Q7 (a := ⟨p, 0, none⟩) (own_blk_ne Q7 P7 (by decide)) (.slice (some ⟨g7, 0, none⟩) (m + 1) cap7)
          have N8 := ownsRow_setCell_other own7 (a := ⟨p, 0, none⟩) (own_blk_ne own7 P7 (by decide)) (.slice (some ⟨g7, 0, none⟩) (m + 1) cap7)
          have B7 := Below.grown B6b grow7 (by omega) (fun z hz => by have := (N6.lt z hz).1; omega)
          have B8b := Below.setCell B7 (p := ⟨p, 0, none⟩) hp (.slice (some ⟨g7, 0, none⟩) (m + 1) cap7)
          have z8 : w9.heap.size ≤ (w7.setCell ⟨p, 0, none⟩ (.slice (some ⟨g7, 0, none⟩) (m + 1) cap7)).heap.size := by
            have := B6.size
            have := grow7.size
            simp [World.setCell]
            omega
          clear P1 P6 P7 O1 O1' Q1 Q6 Q7 Q9 O6 O7 N6 own7 grow7 B7 B6b own9 DN DO DL cp6 cp7 fp7 cp c0 P9 X9 X1
          generalize w7.setCell ⟨p, 0, none⟩ (.slice (some ⟨g7, 0, none⟩) (m + 1) cap7) = w8 at *
          have cq8 := P8.cell 1
          simp at cq8
          have E8 : Hid (∀ j u, (pvs.drop k)[j]? = some u → k < m ∧ w8.cell? ⟨g2, k + j, none⟩ = some u) := fun j u hu => by
            have hj : j < (pvs.drop k).length := (List.getElem?_eq_some_iff.1 hu).1
            have hj2 : j < m - k := by simp at hj; omega
            refine ⟨by omega, ?_⟩
            rw [Q8.cellAt (k + j) (by omega), ← hu, List.getElem?_drop]
          go_wp2_with (at_builtin; refine wpList_appU picT (by rfl) _ _ (by rfl) w9.heap.size g6 (k + 1) cap6 _ (by rfl) O8 _ _ _ (pvs.drop k) (by rfl) (by split <;> intro h <;> cases h) EL.out.2 (by intro ad had j u hu; obtain ⟨h1, h2⟩ := E8.out j u hu; by_cases hck : c2 = k <;> simp [hck] at had <;> first | omega | (subst had; rw [Addr.add_lit]; exact h2)) EL.out.1 (m + 1) (pvs.take k ++ .slice A H cc :: pvs.drop k) (by omega) (by simp) (by omega) z8 ?_; intro g8 cap8 wA ownA growA; have PA := Blk.by_grown P8 growA (fun e => own_blk_ne O8 P8 (by decide) (by rw [Option.some.inj e]; rfl)); have cpA := PA.cell 1; have fpA := PA.free 1; simp at cpA)
          all_goals
            go_ret
            have NL : (names.take k ++ name :: names.drop k).length = m + 1 := by have := HM.out; simp; omega
            have PL : (pvs.take k ++ .slice A H cc :: pvs.drop k).length = m + 1 := by simp; omega
            have zz : base ≤ w9.heap.size := Nat.le_trans zb B8.size
            refine ⟨rfl, Below.setCell (p := ⟨p, 1, none⟩) (Below.grown B8b growA (Nat.le_trans zz z8) (fun z hz => Nat.le_trans zz (O8.lt z hz).1)) hp _, _, _, g7, cap7, g8, cap8, ⟨?_, ?_, ?_, by omega, by rw [PL, NL], OL.out⟩, .inr ⟨NM.out, k, by have := HM.out; omega, rfl, rfl⟩⟩
            · rw [NL]
              have := PA.store 1 (.slice (some ⟨g8, 0, none⟩) (m + 1) cap8)
              simpa using this
            · rw [NL]
              exact own_base (ownsRow_setCell_other (N8.kept growA (.inr (own_own_ne O8 N8 (by decide) rfl))) (a := ⟨p, 1, none⟩) (own_blk_ne (N8.kept growA (.inr (own_own_ne O8 N8 (by decide) rfl))) PA (by decide)) _) zb
            · rw [NL]
              exact own_base (ownsRow_setCell_other ownA (a := ⟨p, 1, none⟩) (own_blk_ne ownA PA (by decide)) _) zz
end Go.Proofs.YtgbciimfpahekaaDoor
