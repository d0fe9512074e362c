/- Numbers in decimal: the reference's. -/
import Derived.Test.YtgbciimfpahekaaDoorJnP
import Derived.Test.YtgbciimfpahekaaDoorBts
namespace Go.Proofs.YtgbciimfpahekaaDoor
open Go.RowKit

/-- append of a whole slice to one of the call's own that is not nil. -/
theorem wpList_appJ {T e : TypeId} {z : Value} {size bytes : Nat} (E : ElemT T e z size bytes) {w : World} {ops : Array Oper} {rest : List Oper} {o : Oper} {a : Act} {Q : Exit → Act → World → Prop} (hgd : o.guard = none) (s x : Operand)
    (ho : o.op = .call { callee := .builtin .append, args := #[s, x], argTypes := #[T, T] })
    (base : Nat) (v : Value) (n : Nat) (xs : List Value) (hs : a.eval s = v) (hown : w.ownsRow base e size v n xs)
    (g m c : Nat) (news : List Value) (hx : a.eval x = .slice (some ⟨g, 0, none⟩) m c) (hl : news.length = m * size) (hnews : ∀ j u, news[j]? = some u → w.cell? ((⟨g, 0, none⟩ : Addr).add j) = some u) (h1 : ∀ u ∈ news, u.oneCell' = true)
    (hn : n + m ≤ 1000000000) (hbase : base ≤ w.heap.size) (hv : v ≠ .slice none 0 0)
    (h : ∀ g cap w', w'.ownsRow base e size (.slice (some ⟨g, 0, none⟩) (n + m) cap) (n + m) (xs ++ news) → w.grownBy w' v.ownBlock → wpList Tryd.prog ops Q rest (a.put o.dst (.slice (some ⟨g, 0, none⟩) (n + m) cap)) w') : wpList Tryd.prog ops Q (o :: rest) a w := by
  obtain ⟨i0, hi, hz0, hz1, hz2⟩ := info_parts E.info
  have hsm := E.small
  refine wpList_append_own w hgd s x T ho base e i0 z size bytes E.under hi hz0 hz1 hz2 E.cells E.pos v n xs hs hown ⟨g, 0, none⟩ m c news hx hl hnews h1 (by unfold maxLen; omega) ?_ hbase ?_
  · have : (n + m) * bytes ≤ 1000000001 * 64 := Nat.mul_le_mul (by omega) hsm
    omega
  · intro v' w' hown' hg hnil
    have hne : v' ≠ .slice none 0 0 := fun e => hv (hnil.1 e).1
    rcases hown'.2 with ⟨e, _⟩ | ⟨g', c', _, rfl, _⟩
    · exact absurd e hne
    · exact h g' c' w' hown' hg

def pfD (u : Nat) : List UInt8 := if u = 0 then [] else Lib.decDigits u
theorem dec_step (u : Nat) : Lib.decDigits u = pfD (u / 10) ++ [UInt8.ofNat (48 + u % 10)] := by
  rw [Lib.decDigits]
  split
  · rename_i h
    rw [show u / 10 = 0 by omega, show u % 10 = u by omega]; simp [pfD]
  · rename_i h
    rw [pfD, if_neg (by omega)]
theorem dec_next {n u : Nat} {L : List UInt8} (h : Lib.decDigits n = pfD u ++ L) (hu : u ≠ 0) : Lib.decDigits n = pfD (u / 10) ++ (UInt8.ofNat (48 + u % 10) :: L) := by
  rw [h, pfD, if_neg hu, dec_step u]; simp
theorem nDigits_le : ∀ (k u : Nat), u < 10 ^ k → 1 ≤ k → Lib.nDigits u ≤ k
  | 0, _, _, h => absurd h (by decide)
  | 1, u, h, _ => by rw [Lib.nDigits_small (by omega)]; exact Nat.le_refl _
  | k + 2, u, h, _ => by
    by_cases h1 : u < 10
    · rw [Lib.nDigits_small h1]; omega
    · rw [Lib.nDigits_big h1]
      have := nDigits_le (k + 1) (u / 10) (by rw [Nat.pow_succ] at h; omega) (by omega)
      omega
theorem dec_len20 (n : Int) (h0 : -9223372036854775808 ≤ n) (h1 : n ≤ 9223372036854775807) : (Lib.decDigits n.natAbs).length ≤ 20 := by
  rw [Lib.decDigits_length]; exact nDigits_le 20 _ (by have : n.natAbs < 10 ^ 20 := by omega
                                                       exact this) (by decide)
theorem itoa_len (n : Int) (h0 : -9223372036854775808 ≤ n) (h1 : n ≤ 9223372036854775807) : (Lib.itoa n).length ≤ 21 := by
  have := dec_len20 n h0 h1
  unfold Lib.itoa
  split
  · simp; omega
  · rw [show n.toNat = n.natAbs by omega]; omega
theorem u8d (m : Nat) (h : m < 10) : (((UInt8.ofNat (48 + m)).toNat : Nat) : Int) = 48 + (m : Int) := by
  rw [UInt8.toNat_ofNat']; omega
theorem u8s_cons (b : UInt8) (l : List UInt8) : u8s (b :: l) = .int .u8 ((b.toNat : Nat) : Int) :: u8s l := rfl
theorem u8s_news {w : World} {base g c l : Nat} {L : List UInt8} (h : w.ownsRow base 5 1 (.slice (some ⟨g, 0, none⟩) l c) l (u8s L)) (hL : L.length = l) (o : Obj) : ∀ j u, (u8s L)[j]? = some u → (w.alloc o).cell? ((⟨g, 0, none⟩ : Addr).add j) = some u := fun j u hj => by
  subst hL
  have hl := (h.lt g rfl).2
  have hjl : j < L.length := by
    have := (List.getElem?_eq_some_iff.1 hj).1
    simpa [u8s] using this
  rw [Addr.add_lit, Nat.zero_add, World.cell?_alloc_lt w o ⟨g, j, none⟩ hl, h.cellAt j (by omega)]
  simpa using hj
theorem u8s_len {L : List UInt8} {l : Nat} (h : L.length = l) : (u8s L).length = l * 1 := by simp [u8s, h]
theorem u8s_one (L : List UInt8) : ∀ u ∈ u8s L, u.oneCell' = true := fun u hu => by
  obtain ⟨b, _, rfl⟩ := List.mem_map.1 hu
  rfl
theorem own_u8J {w : World} {base base' g n cap : Nat} {xs : List Value} (h : w.ownsRow base 5 1 (.slice (some ⟨g, 0, none⟩) n cap) n xs) (hb : base' ≤ base) {ys : List Value} {m : Nat} (hx : xs = ys) (hn : n = m) : w.ownsRow base' 5 1 (.slice (some ⟨g, 0, none⟩) m cap) m ys := by
  subst hx hn; exact own_base h hb
set_option maxRecDepth 100000 in
set_option maxHeartbeats 1000000 in
theorem decS_any (n : Int) (w : World) (h0 : -9223372036854775808 ≤ n) (h1 : n ≤ 9223372036854775807) :
    Calls Tryd.prog 28 #[.int .i64 n] w fun e w' => e = .returned (.string ⟨(Lib.itoa n).toArray⟩) ∧ Below w.heap.size w w' := by
  obtain ⟨w1, hw1⟩ : ∃ w1, w.alloc (.cells #[] 5) = w1 := ⟨_, rfl⟩
  have O1 : w1.ownsRow w.heap.size 5 1 (.slice (some ⟨w.heap.size, 0, none⟩) 0 0) 0 (u8s []) := by rw [← hw1]; exact World.ownsRow_lit (e := 5) (size := 1) w #[] 0 (Nat.le_refl _) (by decide) rfl
  have B1 : Below w.heap.size w w1 := by rw [← hw1]; exact Ext.more (Ext.refl _) _
  have HW1 := Lib.hid hw1
  have DL := Lib.hid (dec_len20 n h0 h1)
  clear hw1
  go_enter Tryd.func28, Tryd.ntmps28
  go_wp2_with fail
  try simp only [HW1.out]
  go_loopw [3, 4, 5] (fun ov rv _ wr => ∃ (g c : Nat) (L : List UInt8) (r : Int), rv = .int .i64 r ∧ ov = .slice (some ⟨g, 0, none⟩) L.length c ∧ -9223372036854775808 ≤ r ∧ r ≤ 9223372036854775807 ∧ Hid ((L = [] ∧ r = n) ∨ (L ≠ [] ∧ Lib.decDigits n.natAbs = pfD r.natAbs ++ L)) ∧
    wr.ownsRow w.heap.size 5 1 (.slice (some ⟨g, 0, none⟩) L.length c) L.length (u8s L) ∧ Below w.heap.size w wr) (fun ov rv _ _ => 2 * (intOf rv).natAbs + (match ov with | .slice _ l _ => if l = 0 then 1 else 0 | _ => 0))
  case atStart => exact ⟨_, _, [], n, rfl, rfl, h0, h1, .inl ⟨rfl, rfl⟩, O1, B1⟩
  case round =>
    obtain ⟨g, c, L, r, rfl, rfl, r0, r1, hI, hown, hb⟩ := hrel
    clear O1 B1
    have gl := hown.lt g rfl
    obtain ⟨l, hl⟩ : ∃ l, L.length = l := ⟨_, rfl⟩
    rw [hl] at hown ⊢
    have HOW := Lib.hid hown
    have HL := Lib.hid hl
    clear hown
    by_cases hgo : L = [] ∨ r ≠ 0
    · have NX : Hid (Lib.decDigits n.natAbs = pfD (r.natAbs / 10) ++ (UInt8.ofNat (48 + r.natAbs % 10) :: L)) := by
        rcases hI.out with ⟨rfl, rfl⟩ | ⟨hL, hd⟩
        · exact dec_step _
        · exact dec_next hd (by rcases hgo with h | h; exact absurd h hL; omega)
      have LL : l ≤ 19 := by
        have := DL.out
        rw [NX.out, List.length_append, List.length_cons] at this
        omega
      have hcond : ¬ l = 0 → ¬ r = 0 := fun h => by
        rcases hgo with rfl | h2
        · exact absurd hl.symm h
        · exact h2
      obtain ⟨u, hu⟩ : ∃ u, r.natAbs = u := ⟨_, rfl⟩
      have hu9 : u ≤ 9223372036854775808 := by omega
      have UD : Hid ((r.tdiv 10).natAbs = u / 10) := by
        rw [Hid, Int.natAbs_tdiv, hu]; rfl
      obtain ⟨x, hx⟩ : ∃ x, r.tmod 10 = x := ⟨_, rfl⟩
      have hxu : x.natAbs = u % 10 := by
        rw [← hx, Int.natAbs_tmod, hu]; rfl
      obtain ⟨y, hy⟩ : ∃ y, r.tdiv 10 = y := ⟨_, rfl⟩
      rw [hy] at UD
      have hm : u % 10 < 10 := Nat.mod_lt _ (by decide)
      rw [hu] at NX
      obtain ⟨m, hmm⟩ : ∃ m, u % 10 = m := ⟨_, rfl⟩
      rw [hmm] at NX hxu hm
      have UB := u8d m hm
      have UO : Hid (u8s (UInt8.ofNat (48 + m) :: L) = [.int .u8 (48 + (m : Int))] ++ u8s L) := by rw [Hid, u8s_cons, UB]; rfl
      have NX2 : Hid (Lib.decDigits n.natAbs = pfD y.natAbs ++ (UInt8.ofNat (48 + m) :: L)) := by rw [Hid, NX.out, UD.out]
      have NL : Hid ((UInt8.ofNat (48 + m) :: L).length = 1 + l) := by rw [Hid, List.length_cons]; omega
      have y0 : -9223372036854775808 ≤ y := by have := UD.out; omega
      have y1 : y ≤ 9223372036854775807 := by have := UD.out; omega
      have MS : Hid (2 * y.natAbs < 2 * r.natAbs + (if l = 0 then 1 else 0)) := by
        have h1 := UD.out
        rw [Hid, h1, hu]
        rcases hgo with h | h
        · rw [h] at hl; rw [if_pos (by simpa using hl.symm)]; omega
        · have : u ≠ 0 := by omega
          split <;> omega
      have w48 : IntKind.i64.wrap (48 + (m : Int)) = 48 + (m : Int) := IntWalk.i64_in _ (by omega)
      have CS : (x < 0 ∧ IntKind.i64.wrap (-x) = (m : Int)) ∨ (¬ x < 0 ∧ x = (m : Int)) := by
        by_cases h : x < 0
        · exact .inl ⟨h, by rw [IntWalk.i64_in _ (by omega)]; omega⟩
        · exact .inr ⟨h, by omega⟩
      have CL : l = 0 ∨ (((l : Int) == 0) = false ∧ (r != 0) = true) := by
        by_cases h : l = 0
        · exact .inl h
        · exact .inr ⟨by rw [beq_eq_false_iff_ne]; omega, by rw [bne_iff_ne]; exact hcond h⟩
      generalize UInt8.ofNat (48 + m) = ub at *
      clear hI hmm hu UB UD NX hgo hcond hxu hu9 hl
      have hz1 := hb.size
      rcases CS with ⟨hneg, hxm⟩ | ⟨hneg, hxm⟩
      case' inr => subst hxm
      all_goals
        rcases CL with rfl | ⟨t0, tr⟩
        all_goals
          go_wp2_with (at_builtin; refine wpList_appJ byteT (by rfl) _ _ (by rfl) wr.heap.size (.slice (some ⟨wr.heap.size, 0, none⟩) 1 1) 1 [.int .u8 (48 + (m : Int))] (by rfl) (World.ownsRow_lit (e := 5) (size := 1) wr #[.int .u8 (48 + (m : Int))] 1 (Nat.le_refl _) (by decide) rfl) g _ c (u8s L) (by rfl) (u8s_len HL.out) (u8s_news HOW.out HL.out _) (u8s_one L) (by omega) (by simp) (by simp) ?_; intro g5 c5 w5 own5 hg5)
          have B5 : Below w.heap.size w w5 := (Ext.more hb _).grown hg5 (by simp; omega) (fun z hz => by simp [Value.ownBlock] at hz; omega)
          have HO := Lib.hid (own_u8J own5 hz1 UO.out.symm NL.out.symm)
          clear own5 hg5
          go_wp2_with fail
          go_roundw
          case rel => exact ⟨g5, c5, ub :: L, y, rfl, by rw [NL.out], y0, y1, .inr ⟨by simp, NX2.out⟩, HO.out, B5⟩
          case measure =>
            have := MS.out
            simp only [intOf]
            simpa using this
    · have hL : L ≠ [] := fun h => hgo (.inl h)
      have hr : r = 0 := by
        by_cases h : r = 0
        · exact h
        · exact absurd (.inr h) hgo
      subst hr
      have hd : Lib.decDigits n.natAbs = L := by
        rcases hI.out with h | h
        · exact absurd h.1 hL
        · rw [h.2]; simp [pfD]
      have hLl : l ≤ 20 := by have := DL.out; rw [hd, hl] at this; exact this
      have t1 : ((l : Int) == 0) = false := by
        rw [beq_eq_false_iff_ne]; intro h; exact hL (List.eq_nil_of_length_eq_zero (by omega))
      have HD := Lib.hid hd
      have hz1 := hb.size
      clear hI hgo hL hd hl
      by_cases hneg : n < 0
      · have RS : Hid (Lib.itoa n = 45 :: L) := by rw [Hid, Lib.itoa, if_pos hneg, HD.out]
        go_wp2_with (at_builtin; refine wpList_appJ byteT (by rfl) _ _ (by rfl) wr.heap.size (.slice (some ⟨wr.heap.size, 0, none⟩) 1 1) 1 [.int .u8 45] (by rfl) (World.ownsRow_lit (e := 5) (size := 1) wr #[.int .u8 45] 1 (Nat.le_refl _) (by decide) rfl) g _ c (u8s L) (by rfl) (u8s_len HL.out) (u8s_news HOW.out HL.out _) (u8s_one L) (by omega) (by simp) (by simp) ?_; intro g5 c5 w5 own5 hg5)
        generalize hl2 : 1 + l = l2 at own5 ⊢
        have B5 : Below w.heap.size w w5 := (Ext.more hb _).grown hg5 (by simp; omega) (fun z hz => by simp [Value.ownBlock] at hz; omega)
        have hcv := str_of_own (l := 45 :: L) (own_u8J own5 (Nat.le_refl _) (ys := u8s (45 :: L)) (m := l2) rfl rfl) (by simp; have := HL.out; omega)
        rw [← RS.out] at hcv
        clear own5 hg5 hl2
        go_wp2_with fail
        rw [hcv]
        go_wp2_with fail
        go_ret
        exact ⟨rfl, B5⟩
      · have RS : Hid (Lib.itoa n = L) := by rw [Hid, Lib.itoa, if_neg hneg, show n.toNat = n.natAbs by omega, HD.out]
        have hcv := str_of_own HOW.out HL.out
        rw [← RS.out] at hcv
        go_wp2_with fail
        go_ret
        exact ⟨rfl, hb⟩
end Go.Proofs.YtgbciimfpahekaaDoor
