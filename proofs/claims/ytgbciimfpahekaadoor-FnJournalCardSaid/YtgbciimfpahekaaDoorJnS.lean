/- Numbers in decimal: the reference's. Texts cut at marks: the reference's. Journals: the small functions. Journals: the reference's. -/
import Derived.Test.YtgbciimfpahekaaDoorJnP
import Derived.Test.YtgbciimfpahekaaDoorBts
import Derived.Test.YtgbciimfpahekaaDoorTold
import Derived.Test.YtgbciimfpahekaaDoorMem
import Derived.Test.YtgbciimfpahekaaDoorShelf
import Derived.Lib.LaidTab
import Derived.Test.YtgbciimfpahekaaDoorStr
import Derived.Deep.RegionHeld3
namespace Go.Proofs.YtgbciimfpahekaaDoor
open Go.RowKit

/-- append of a whole slice to one of the call's own that is not nil. -/
theorem wpList_appJ {T e : TypeId} {z : Value} {size bytes : Nat} (E : ElemT T e z size bytes) {w : World} {ops : Array Oper} {rest : List Oper} {o : Oper} {a : Act} {Q : Exit → Act → World → Prop} (hgd : o.guard = none) (s x : Operand)
    (ho : o.op = .call { callee := .builtin .append, args := #[s, x], argTypes := #[T, T] })
    (base : Nat) (v : Value) (n : Nat) (xs : List Value) (hs : a.eval s = v) (hown : w.ownsRow base e size v n xs)
    (g m c : Nat) (news : List Value) (hx : a.eval x = .slice (some ⟨g, 0, none⟩) m c) (hl : news.length = m * size) (hnews : ∀ j u, news[j]? = some u → w.cell? ((⟨g, 0, none⟩ : Addr).add j) = some u) (h1 : ∀ u ∈ news, u.oneCell' = true)
    (hn : n + m ≤ 1000000000) (hbase : base ≤ w.heap.size) (hv : v ≠ .slice none 0 0)
    (h : ∀ g cap w', w'.ownsRow base e size (.slice (some ⟨g, 0, none⟩) (n + m) cap) (n + m) (xs ++ news) → w.grownBy w' v.ownBlock → wpList Tryd.prog ops Q rest (a.put o.dst (.slice (some ⟨g, 0, none⟩) (n + m) cap)) w') : wpList Tryd.prog ops Q (o :: rest) a w := by
  obtain ⟨i0, hi, hz0, hz1, hz2⟩ := info_parts E.info
  have hsm := E.small
  refine wpList_append_own w hgd s x T ho base e i0 z size bytes E.under hi hz0 hz1 hz2 E.cells E.pos v n xs hs hown ⟨g, 0, none⟩ m c news hx hl hnews h1 (by unfold maxLen; omega) ?_ hbase ?_
  · have : (n + m) * bytes ≤ 1000000001 * 64 := Nat.mul_le_mul (by omega) hsm
    omega
  · intro v' w' hown' hg hnil
    have hne : v' ≠ .slice none 0 0 := fun e => hv (hnil.1 e).1
    rcases hown'.2 with ⟨e, _⟩ | ⟨g', c', _, rfl, _⟩
    · exact absurd e hne
    · exact h g' c' w' hown' hg

def pfD (u : Nat) : List UInt8 := if u = 0 then [] else Lib.decDigits u
theorem dec_step (u : Nat) : Lib.decDigits u = pfD (u / 10) ++ [UInt8.ofNat (48 + u % 10)] := by
  rw [Lib.decDigits]
  split
  · rename_i h
    rw [show u / 10 = 0 by omega, show u % 10 = u by omega]; simp [pfD]
  · rename_i h
    rw [pfD, if_neg (by omega)]
theorem dec_next {n u : Nat} {L : List UInt8} (h : Lib.decDigits n = pfD u ++ L) (hu : u ≠ 0) : Lib.decDigits n = pfD (u / 10) ++ (UInt8.ofNat (48 + u % 10) :: L) := by
  rw [h, pfD, if_neg hu, dec_step u]; simp
theorem nDigits_le : ∀ (k u : Nat), u < 10 ^ k → 1 ≤ k → Lib.nDigits u ≤ k
  | 0, _, _, h => absurd h (by decide)
  | 1, u, h, _ => by rw [Lib.nDigits_small (by omega)]; exact Nat.le_refl _
  | k + 2, u, h, _ => by
    by_cases h1 : u < 10
    · rw [Lib.nDigits_small h1]; omega
    · rw [Lib.nDigits_big h1]
      have := nDigits_le (k + 1) (u / 10) (by rw [Nat.pow_succ] at h; omega) (by omega)
      omega
theorem dec_len20 (n : Int) (h0 : -9223372036854775808 ≤ n) (h1 : n ≤ 9223372036854775807) : (Lib.decDigits n.natAbs).length ≤ 20 := by
  rw [Lib.decDigits_length]; exact nDigits_le 20 _ (by have : n.natAbs < 10 ^ 20 := by omega
                                                       exact this) (by decide)
theorem itoa_len (n : Int) (h0 : -9223372036854775808 ≤ n) (h1 : n ≤ 9223372036854775807) : (Lib.itoa n).length ≤ 21 := by
  have := dec_len20 n h0 h1
  unfold Lib.itoa
  split
  · simp; omega
  · rw [show n.toNat = n.natAbs by omega]; omega
theorem u8d (m : Nat) (h : m < 10) : (((UInt8.ofNat (48 + m)).toNat : Nat) : Int) = 48 + (m : Int) := by
  rw [UInt8.toNat_ofNat']; omega
theorem u8s_cons (b : UInt8) (l : List UInt8) : u8s (b :: l) = .int .u8 ((b.toNat : Nat) : Int) :: u8s l := rfl
theorem u8s_news {w : World} {base g c l : Nat} {L : List UInt8} (h : w.ownsRow base 5 1 (.slice (some ⟨g, 0, none⟩) l c) l (u8s L)) (hL : L.length = l) (o : Obj) : ∀ j u, (u8s L)[j]? = some u → (w.alloc o).cell? ((⟨g, 0, none⟩ : Addr).add j) = some u := fun j u hj => by
  subst hL
  have hl := (h.lt g rfl).2
  have hjl : j < L.length := by
    have := (List.getElem?_eq_some_iff.1 hj).1
    simpa [u8s] using this
  rw [Addr.add_lit, Nat.zero_add, World.cell?_alloc_lt w o ⟨g, j, none⟩ hl, h.cellAt j (by omega)]
  simpa using hj
theorem u8s_len {L : List UInt8} {l : Nat} (h : L.length = l) : (u8s L).length = l * 1 := by simp [u8s, h]
theorem u8s_one (L : List UInt8) : ∀ u ∈ u8s L, u.oneCell' = true := fun u hu => by
  obtain ⟨b, _, rfl⟩ := List.mem_map.1 hu
  rfl
theorem own_u8J {w : World} {base base' g n cap : Nat} {xs : List Value} (h : w.ownsRow base 5 1 (.slice (some ⟨g, 0, none⟩) n cap) n xs) (hb : base' ≤ base) {ys : List Value} {m : Nat} (hx : xs = ys) (hn : n = m) : w.ownsRow base' 5 1 (.slice (some ⟨g, 0, none⟩) m cap) m ys := by
  subst hx hn; exact own_base h hb
set_option maxRecDepth 100000 in
set_option maxHeartbeats 1000000 in
theorem decS_any (n : Int) (w : World) (h0 : -9223372036854775808 ≤ n) (h1 : n ≤ 9223372036854775807) :
    Calls Tryd.prog 28 #[.int .i64 n] w fun e w' => e = .returned (.string ⟨(Lib.itoa n).toArray⟩) ∧ Below w.heap.size w w' := by
  obtain ⟨w1, hw1⟩ : ∃ w1, w.alloc (.cells #[] 5) = w1 := ⟨_, rfl⟩
  have O1 : w1.ownsRow w.heap.size 5 1 (.slice (some ⟨w.heap.size, 0, none⟩) 0 0) 0 (u8s []) := by rw [← hw1]; exact World.ownsRow_lit (e := 5) (size := 1) w #[] 0 (Nat.le_refl _) (by decide) rfl
  have B1 : Below w.heap.size w w1 := by rw [← hw1]; exact Ext.more (Ext.refl _) _
  have HW1 := Lib.hid hw1
  have DL := Lib.hid (dec_len20 n h0 h1)
  clear hw1
  go_enter Tryd.func28, Tryd.ntmps28
  go_wp2_with fail
  try simp only [HW1.out]
  go_loopw [3, 4, 5] (fun ov rv _ wr => ∃ (g c : Nat) (L : List UInt8) (r : Int), rv = .int .i64 r ∧ ov = .slice (some ⟨g, 0, none⟩) L.length c ∧ -9223372036854775808 ≤ r ∧ r ≤ 9223372036854775807 ∧ Hid ((L = [] ∧ r = n) ∨ (L ≠ [] ∧ Lib.decDigits n.natAbs = pfD r.natAbs ++ L)) ∧
    wr.ownsRow w.heap.size 5 1 (.slice (some ⟨g, 0, none⟩) L.length c) L.length (u8s L) ∧ Below w.heap.size w wr) (fun ov rv _ _ => 2 * (intOf rv).natAbs + (match ov with | .slice _ l _ => if l = 0 then 1 else 0 | _ => 0))
  case atStart => exact ⟨_, _, [], n, rfl, rfl, h0, h1, .inl ⟨rfl, rfl⟩, O1, B1⟩
  case round =>
    obtain ⟨g, c, L, r, rfl, rfl, r0, r1, hI, hown, hb⟩ := hrel
    clear O1 B1
    have gl := hown.lt g rfl
    obtain ⟨l, hl⟩ : ∃ l, L.length = l := ⟨_, rfl⟩
    rw [hl] at hown ⊢
    have HOW := Lib.hid hown
    have HL := Lib.hid hl
    clear hown
    by_cases hgo : L = [] ∨ r ≠ 0
    · have NX : Hid (Lib.decDigits n.natAbs = pfD (r.natAbs / 10) ++ (UInt8.ofNat (48 + r.natAbs % 10) :: L)) := by
        rcases hI.out with ⟨rfl, rfl⟩ | ⟨hL, hd⟩
        · exact dec_step _
        · exact dec_next hd (by rcases hgo with h | h; exact absurd h hL; omega)
      have LL : l ≤ 19 := by
        have := DL.out
        rw [NX.out, List.length_append, List.length_cons] at this
        omega
      have hcond : ¬ l = 0 → ¬ r = 0 := fun h => by
        rcases hgo with rfl | h2
        · exact absurd hl.symm h
        · exact h2
      obtain ⟨u, hu⟩ : ∃ u, r.natAbs = u := ⟨_, rfl⟩
      have hu9 : u ≤ 9223372036854775808 := by omega
      have UD : Hid ((r.tdiv 10).natAbs = u / 10) := by
        rw [Hid, Int.natAbs_tdiv, hu]; rfl
      obtain ⟨x, hx⟩ : ∃ x, r.tmod 10 = x := ⟨_, rfl⟩
      have hxu : x.natAbs = u % 10 := by
        rw [← hx, Int.natAbs_tmod, hu]; rfl
      obtain ⟨y, hy⟩ : ∃ y, r.tdiv 10 = y := ⟨_, rfl⟩
      rw [hy] at UD
      have hm : u % 10 < 10 := Nat.mod_lt _ (by decide)
      rw [hu] at NX
      obtain ⟨m, hmm⟩ : ∃ m, u % 10 = m := ⟨_, rfl⟩
      rw [hmm] at NX hxu hm
      have UB := u8d m hm
      have UO : Hid (u8s (UInt8.ofNat (48 + m) :: L) = [.int .u8 (48 + (m : Int))] ++ u8s L) := by rw [Hid, u8s_cons, UB]; rfl
      have NX2 : Hid (Lib.decDigits n.natAbs = pfD y.natAbs ++ (UInt8.ofNat (48 + m) :: L)) := by rw [Hid, NX.out, UD.out]
      have NL : Hid ((UInt8.ofNat (48 + m) :: L).length = 1 + l) := by rw [Hid, List.length_cons]; omega
      have y0 : -9223372036854775808 ≤ y := by have := UD.out; omega
      have y1 : y ≤ 9223372036854775807 := by have := UD.out; omega
      have MS : Hid (2 * y.natAbs < 2 * r.natAbs + (if l = 0 then 1 else 0)) := by
        have h1 := UD.out
        rw [Hid, h1, hu]
        rcases hgo with h | h
        · rw [h] at hl; rw [if_pos (by simpa using hl.symm)]; omega
        · have : u ≠ 0 := by omega
          split <;> omega
      have w48 : IntKind.i64.wrap (48 + (m : Int)) = 48 + (m : Int) := IntWalk.i64_in _ (by omega)
      have CS : (x < 0 ∧ IntKind.i64.wrap (-x) = (m : Int)) ∨ (¬ x < 0 ∧ x = (m : Int)) := by
        by_cases h : x < 0
        · exact .inl ⟨h, by rw [IntWalk.i64_in _ (by omega)]; omega⟩
        · exact .inr ⟨h, by omega⟩
      have CL : l = 0 ∨ (((l : Int) == 0) = false ∧ (r != 0) = true) := by
        by_cases h : l = 0
        · exact .inl h
        · exact .inr ⟨by rw [beq_eq_false_iff_ne]; omega, by rw [bne_iff_ne]; exact hcond h⟩
      generalize UInt8.ofNat (48 + m) = ub at *
      clear hI hmm hu UB UD NX hgo hcond hxu hu9 hl
      have hz1 := hb.size
      rcases CS with ⟨hneg, hxm⟩ | ⟨hneg, hxm⟩
      case' inr => subst hxm
      all_goals
        rcases CL with rfl | ⟨t0, tr⟩
        all_goals
          go_wp2_with (at_builtin; refine wpList_appJ byteT (by rfl) _ _ (by rfl) wr.heap.size (.slice (some ⟨wr.heap.size, 0, none⟩) 1 1) 1 [.int .u8 (48 + (m : Int))] (by rfl) (World.ownsRow_lit (e := 5) (size := 1) wr #[.int .u8 (48 + (m : Int))] 1 (Nat.le_refl _) (by decide) rfl) g _ c (u8s L) (by rfl) (u8s_len HL.out) (u8s_news HOW.out HL.out _) (u8s_one L) (by omega) (by simp) (by simp) ?_; intro g5 c5 w5 own5 hg5)
          have B5 : Below w.heap.size w w5 := (Ext.more hb _).grown hg5 (by simp; omega) (fun z hz => by simp [Value.ownBlock] at hz; omega)
          have HO := Lib.hid (own_u8J own5 hz1 UO.out.symm NL.out.symm)
          clear own5 hg5
          go_wp2_with fail
          go_roundw
          case rel => exact ⟨g5, c5, ub :: L, y, rfl, by rw [NL.out], y0, y1, .inr ⟨by simp, NX2.out⟩, HO.out, B5⟩
          case measure =>
            have := MS.out
            simp only [intOf]
            simpa using this
    · have hL : L ≠ [] := fun h => hgo (.inl h)
      have hr : r = 0 := by
        by_cases h : r = 0
        · exact h
        · exact absurd (.inr h) hgo
      subst hr
      have hd : Lib.decDigits n.natAbs = L := by
        rcases hI.out with h | h
        · exact absurd h.1 hL
        · rw [h.2]; simp [pfD]
      have hLl : l ≤ 20 := by have := DL.out; rw [hd, hl] at this; exact this
      have t1 : ((l : Int) == 0) = false := by
        rw [beq_eq_false_iff_ne]; intro h; exact hL (List.eq_nil_of_length_eq_zero (by omega))
      have HD := Lib.hid hd
      have hz1 := hb.size
      clear hI hgo hL hd hl
      by_cases hneg : n < 0
      · have RS : Hid (Lib.itoa n = 45 :: L) := by rw [Hid, Lib.itoa, if_pos hneg, HD.out]
        go_wp2_with (at_builtin; refine wpList_appJ byteT (by rfl) _ _ (by rfl) wr.heap.size (.slice (some ⟨wr.heap.size, 0, none⟩) 1 1) 1 [.int .u8 45] (by rfl) (World.ownsRow_lit (e := 5) (size := 1) wr #[.int .u8 45] 1 (Nat.le_refl _) (by decide) rfl) g _ c (u8s L) (by rfl) (u8s_len HL.out) (u8s_news HOW.out HL.out _) (u8s_one L) (by omega) (by simp) (by simp) ?_; intro g5 c5 w5 own5 hg5)
        generalize hl2 : 1 + l = l2 at own5 ⊢
        have B5 : Below w.heap.size w w5 := (Ext.more hb _).grown hg5 (by simp; omega) (fun z hz => by simp [Value.ownBlock] at hz; omega)
        have hcv := str_of_own (l := 45 :: L) (own_u8J own5 (Nat.le_refl _) (ys := u8s (45 :: L)) (m := l2) rfl rfl) (by simp; have := HL.out; omega)
        rw [← RS.out] at hcv
        clear own5 hg5 hl2
        go_wp2_with fail
        rw [hcv]
        go_wp2_with fail
        go_ret
        exact ⟨rfl, B5⟩
      · have RS : Hid (Lib.itoa n = L) := by rw [Hid, Lib.itoa, if_neg hneg, show n.toNat = n.natAbs by omega, HD.out]
        have hcv := str_of_own HOW.out HL.out
        rw [← RS.out] at hcv
        go_wp2_with fail
        go_ret
        exact ⟨rfl, hb⟩
end Go.Proofs.YtgbciimfpahekaaDoor

namespace Go.Proofs.YtgbciimfpahekaaDoor
open Go.RowKit

def mkB (l : List UInt8) : ByteArray := ⟨l.toArray⟩
theorem bl_mkB (l : List UInt8) : bl (mkB l) = l := by simp [bl, mkB]
theorem mkB_bl (s : ByteArray) : mkB (bl s) = s := by
  apply ByteArray.ext
  simp [mkB, bl]
theorem bl_ext (t : ByteArray) (a b : Nat) : bl (t.extract a b) = ((bl t).drop a).take (b - a) := by
  rw [bl, ← ByteArray.toList_eq]; exact Lib.extract_toList t a b
theorem ext_mkB (t : ByteArray) (a b : Nat) : t.extract a b = mkB (((bl t).drop a).take (b - a)) := by
  rw [← bl_ext, mkB_bl]
theorem mkB_size (l : List UInt8) : (mkB l).size = l.length := by simp [mkB, ByteArray.size]
theorem bl_at (s : ByteArray) (i : Nat) (h : i < s.size) : (bl s)[i]'h = s[i] := rfl
/-- A list of texts, as cells. -/
def txs (o : List (List UInt8)) : List Value := strs (o.map mkB)
theorem txs_snoc (o : List (List UInt8)) (l : List UInt8) : txs (o ++ [l]) = txs o ++ [.string (mkB l)] := by simp [txs, strs]
theorem txs_length (o : List (List UInt8)) : (txs o).length = o.length := by simp [txs, strs]
theorem txs_at (o : List (List UInt8)) (i : Nat) (h : i < o.length) : (txs o)[i]? = some (.string (mkB o[i])) := by simp [txs, strs, h]
theorem own_str {w : World} {base base' g n cap : Nat} {xs : List Value} (h : w.ownsRow base 9 1 (.slice (some ⟨g, 0, none⟩) n cap) n xs) (hb : base' ≤ base) {ys : List Value} {m : Nat} (hx : xs = ys) (hn : n = m) : w.ownsRow base' 9 1 (.slice (some ⟨g, 0, none⟩) m cap) m ys := by
  subst hx hn; exact own_base h hb
/-- How far the cutting of s has come: from, to, the parts so far. -/
def CutI (b : UInt8) (s : ByteArray) (f i : Nat) (o : List (List UInt8)) : Prop :=
  (i ≤ s.size ∧ f ≤ i ∧ cutL b (bl s) = o ++ cutL b ((bl s).drop f) ∧ ∀ j (h : j < s.size), f ≤ j → j < i → s[j] ≠ b) ∨ (i = s.size + 1 ∧ o = cutL b (bl s))
section
variable {b : UInt8} {s : ByteArray} {f i : Nat} {o : List (List UInt8)}
theorem CutI.start : CutI b s 0 0 [] := .inl ⟨Nat.zero_le _, Nat.le_refl _, by simp, fun _ _ _ h => absurd h (Nat.not_lt_zero _)⟩
theorem fnd_from (hf : f ≤ i) (hi : i ≤ s.size) (hn : ∀ j (h : j < s.size), f ≤ j → j < i → s[j] ≠ b) (hb : ∀ h : i < s.size, s[i] = b) : fnd b ((bl s).drop f) = i - f := by
  have hl : ((bl s).drop f).length = s.size - f := by rw [List.length_drop, bl_len]
  refine fnd_is (by omega) (fun j hj hlt => ?_) (fun h => ?_)
  · rw [List.getElem_drop]
    exact hn (f + j) (by omega) (by omega) (by omega)
  · rw [List.getElem_drop]
    have := hb (by omega)
    simp only [show f + (i - f) = i by omega]
    exact this
theorem CutI.hit (h : CutI b s f i o) (hi : i < s.size) (hb : s[i] = b) : CutI b s (i + 1) (i + 1) (o ++ [((bl s).drop f).take (i - f)]) := by
  rcases h with ⟨_, hf, hc, hn⟩ | ⟨h, _⟩
  · have e := fnd_from hf (by omega) hn (fun _ => hb)
    have hl : ((bl s).drop f).length = s.size - f := by rw [List.length_drop, bl_len]
    refine .inl ⟨by omega, Nat.le_refl _, ?_, fun j h h1 h2 => absurd h1 (by omega)⟩
    rw [hc, cutL_hit (by rw [e]; omega), e, List.drop_drop, show f + (i - f + 1) = i + 1 by omega]
    simp
  · omega
theorem CutI.last (h : CutI b s f i o) (hi : i = s.size) : CutI b s (i + 1) (i + 1) (o ++ [((bl s).drop f).take (i - f)]) := by
  rcases h with ⟨_, hf, hc, hn⟩ | ⟨h, _⟩
  · have e := fnd_from hf (by omega) hn (fun h => absurd h (by omega))
    have hl : ((bl s).drop f).length = s.size - f := by rw [List.length_drop, bl_len]
    refine .inr ⟨by omega, ?_⟩
    rw [hc, cutL_end (by rw [e]; omega), List.take_of_length_le (by omega)]
  · omega
theorem CutI.skip (h : CutI b s f i o) (hi : i < s.size) (hb : s[i] ≠ b) : CutI b s f (i + 1) o := by
  rcases h with ⟨_, hf, hc, hn⟩ | ⟨h, _⟩
  · refine .inl ⟨by omega, by omega, hc, fun j h h1 h2 => ?_⟩
    rcases Nat.lt_succ_iff_lt_or_eq.1 h2 with h3 | rfl
    · exact hn j h h1 h3
    · exact hb
  · omega
theorem CutI.end_ (h : CutI b s f i o) (hi : ¬ i ≤ s.size) : o = cutL b (bl s) := by
  rcases h with ⟨h, _⟩ | ⟨_, h⟩
  · exact absurd h hi
  · exact h
theorem CutI.le (h : CutI b s f i o) : i ≤ s.size → f ≤ i := by
  rcases h with ⟨_, hf, _⟩ | ⟨h, _⟩
  · exact fun _ => hf
  · omega
theorem CutI.few (h : CutI b s f i o) : i ≤ s.size + 1 := by
  rcases h with ⟨h, _⟩ | ⟨h, _⟩ <;> omega
end
theorem byte_ne {a b : UInt8} (h : a ≠ b) : (((a.toNat : Nat) : Int) == ((b.toNat : Nat) : Int)) = false := by
  rw [beq_eq_false_iff_ne]; intro e; exact h (UInt8.toNat_inj.1 (by omega))
set_option maxRecDepth 100000 in
set_option maxHeartbeats 1000000 in
theorem cutS_any (s : ByteArray) (b : UInt8) (w : World) (hs : s.size ≤ 1000000) :
    Calls Tryd.prog 40 #[.string s, .int .u8 b.toNat] w fun e w' => ∃ g c, e = .returned (.slice (some ⟨g, 0, none⟩) (cutL b (bl s)).length c) ∧
      w'.ownsRow w.heap.size 9 1 (.slice (some ⟨g, 0, none⟩) (cutL b (bl s)).length c) (cutL b (bl s)).length (txs (cutL b (bl s))) ∧ Below w.heap.size w w' := by
  obtain ⟨w1, hw1⟩ : ∃ w1, w.alloc (.cells #[] 9) = w1 := ⟨_, rfl⟩
  have O1 : w1.ownsRow w.heap.size 9 1 (.slice (some ⟨w.heap.size, 0, none⟩) 0 0) 0 (txs []) := by rw [← hw1]; exact World.ownsRow_lit (e := 9) (size := 1) w #[] 0 (Nat.le_refl _) (by decide) rfl
  have B1 : Below w.heap.size w w1 := by rw [← hw1]; exact Ext.more (Ext.refl _) _
  have HW1 := Lib.hid hw1
  have CL := Lib.hid (cutL_len b s.size (bl s) (Nat.le_of_eq (bl_len s)))
  clear hw1
  go_enter Tryd.func40, Tryd.ntmps40
  go_wp2_with fail
  try simp only [HW1.out]
  go_loopw [5, 6, 7] (fun ov fv iv wr => ∃ (f i n g c : Nat) (o : List (List UInt8)), iv = .int .i64 i ∧ fv = .int .i64 f ∧ ov = .slice (some ⟨g, 0, none⟩) n c ∧ Hid (CutI b s f i o ∧ o.length = n) ∧ n ≤ i ∧ f ≤ s.size + 1 ∧
    wr.ownsRow w.heap.size 9 1 (.slice (some ⟨g, 0, none⟩) n c) n (txs o) ∧ Below w.heap.size w wr) (fun _ _ iv _ => s.size + 1 - (intOf iv).toNat)
  case atStart => exact ⟨0, 0, 0, _, _, [], rfl, rfl, rfl, ⟨CutI.start, rfl⟩, Nat.le_refl _, Nat.zero_le _, O1, B1⟩
  case round =>
    obtain ⟨f, i, n, g, c, o, rfl, rfl, rfl, hI, hn, hf, hown, hb⟩ := hrel
    clear O1 B1
    have HOW := Lib.hid hown
    have gl := hown.lt g rfl
    have few := hI.out.1.few
    have hz := hb.size
    clear hown
    by_cases hle : i ≤ s.size
    · have hfi := hI.out.1.le hle
      have q0 : (i : Int) ≤ (s.size : Int) := by omega
      have EX : Hid (s.extract f i = mkB (((bl s).drop f).take (i - f))) := ext_mkB _ _ _
      by_cases hhit : ∀ h : i < s.size, s[i] = b
      · have NI : Hid (CutI b s (i + 1) (i + 1) (o ++ [((bl s).drop f).take (i - f)]) ∧ (o ++ [((bl s).drop f).take (i - f)]).length = n + 1) := by
          refine ⟨?_, by rw [List.length_append, hI.out.2]; rfl⟩
          by_cases h : i < s.size
          · exact hI.out.1.hit h (hhit h)
          · exact hI.out.1.last (by omega)
        have TS := Lib.hid (txs_snoc o (((bl s).drop f).take (i - f)))
        rw [← EX.out] at TS
        have CS : i = s.size ∨ (i < s.size ∧ ∃ h : i < s.size, ((s[i].toNat : Nat) : Int) = ((b.toNat : Nat) : Int)) := by
          by_cases h : i < s.size
          · exact .inr ⟨h, h, by rw [hhit h]⟩
          · exact .inl (by omega)
        have f0 : (0 : Int) ≤ (f : Int) := by omega
        have f1 : (f : Int) ≤ (i : Int) := by omega
        clear hhit EX
        have i0 : (0 : Int) ≤ (i : Int) := by omega
        have hb' : Below w.heap.size w (wr.alloc (.cells #[.string (s.extract f i)] 9)) := Ext.more hb _
        rcases CS with h1 | ⟨h1, h2, h3⟩
        case' inl => have t1 : ((i : Int) == (s.size : Int)) = true := by rw [beq_iff_eq]; omega
        case' inl => have q1 : (i : Int) ≤ (s.size : Int) := by omega
        case' inl => clear h1
        case' inr => have t1 : ((i : Int) == (s.size : Int)) = false := by rw [beq_eq_false_iff_ne]; omega
        case' inr => have q1 : (i : Int) < (s.size : Int) := by omega
        all_goals
          go_wp2_with (at_builtin; refine wpList_app strT (by rfl) _ _ (by rfl) w.heap.size (.slice (some ⟨g, 0, none⟩) n c) n (txs o) (by rfl) (HOW.out.alloc _) wr.heap.size #[.string (s.extract f i)] (by rfl) (heap_alloc_new _ _) rfl (by simp [Value.oneCell']) (by omega) (by simp; omega) ?_; intro g5 c5 w5 own5 hg5 hat5 hlt5)
          have B5 : Below w.heap.size w w5 := hb'.grown hg5 (by simp; omega) (fun z hz => by simp [Value.ownBlock] at hz; omega)
          have HO := Lib.hid (own_str own5 (Nat.le_refl _) (ys := txs (o ++ [((bl s).drop f).take (i - f)])) TS.out.symm rfl)
          clear own5 hg5 hat5 hlt5
          go_wp2_with fail
          go_roundw
          case rel => exact ⟨i + 1, i + 1, n + 1, g5, c5, o ++ [((bl s).drop f).take (i - f)], by go_num, by go_num, rfl, NI.out, by omega, by omega, HO.out, B5⟩
          case measure => simp [intOf]; omega
      · have h1 : i < s.size := by
          by_cases h : i < s.size
          · exact h
          · exact absurd (fun h' => absurd h' h) hhit
        have t1 : ((i : Int) == (s.size : Int)) = false := by
          clear hhit
          rw [beq_eq_false_iff_ne]; omega
        have q1 : (i : Int) < (s.size : Int) := by
          clear hhit
          omega
        have h2 : s[i] ≠ b := fun e => hhit (fun _ => e)
        have SK := Lib.hid (hI.out.1.skip h1 h2)
        have HL := Lib.hid hI.out.2
        have t2 := byte_ne h2
        have i0 : (0 : Int) ≤ (i : Int) := by omega
        clear hhit h2 hI EX
        go_wp2_with fail
        go_roundw
        case rel => exact ⟨f, i + 1, n, g, c, o, by go_num, rfl, rfl, ⟨SK.out, HL.out⟩, by omega, hf, HOW.out, hb⟩
        case measure => simp [intOf]; omega
    · have EQ := Lib.hid (hI.out.1.end_ hle)
      have HL := Lib.hid hI.out.2
      have q0 : ¬ (i : Int) ≤ (s.size : Int) := by omega
      clear hI
      go_wp2_with fail
      go_ret
      refine ⟨g, c, ?_, ?_, hb⟩
      · rw [← EQ.out, HL.out]; rfl
      · rw [← EQ.out, HL.out]; exact HOW.out
end Go.Proofs.YtgbciimfpahekaaDoor

namespace Go.Proofs.YtgbciimfpahekaaDoor
open Go.RowKit

/-- The table of powers is what is listed. -/
def TabOk (w : World) : Prop := Lib.TabIs Tryd.prog w "internal/strconv.uint64pow10" .u64 Lib.pow10Tab ∧ 1 < w.heap.size
theorem TabOk.ext {w w' : World} (h : TabOk w) (hb : Below w.heap.size w w') : TabOk w' := by
  refine ⟨?_, Nat.lt_of_lt_of_le h.2 hb.size⟩
  have h1 := h.1
  have hg : Tryd.prog.globalNamed "internal/strconv.uint64pow10" = some 1 := by kernel_rfl
  unfold Lib.TabIs World.var? at h1 ⊢
  rw [hg] at h1 ⊢
  simp only [Option.bind_some] at h1 ⊢
  rw [hb.block _ h.2]
  exact h1
theorem below_grow (w : World) (k : Nat) (os : Array Obj) : Below w.heap.size w (Sort.grow (w.drewN k) os) := by
  refine ⟨rfl, rfl, rfl, ?_, fun j hj => ?_⟩
  · show w.heap.size ≤ (w.heap ++ os).size
    simp
  · show (w.heap ++ os)[j]? = _
    rw [Array.getElem?_append_left hj]
set_option maxHeartbeats 400000 in
theorem decimal_any (n : Int) (w : World) (h0 : -9223372036854775808 ≤ n) (h1 : n ≤ 9223372036854775807) (ht : TabOk w) :
    Calls Tryd.prog 24 #[.int .i64 n] w fun e w' => e = .returned (.string ⟨(Lib.itoa n).toArray⟩) ∧ Below w.heap.size w w' := by
  have C := Lib.hid (Tryd.strconv_FormatInt_10 n h0 h1 w ht.1)
  clear ht
  go_enter Tryd.func24, Tryd.ntmps24
  go_wp2_with fail
  refine (C.out).mono ?_
  rintro e w' ⟨rfl, k, os, rfl⟩
  go_wp2_with fail
  go_ret
  exact ⟨rfl, below_grow w k os⟩
set_option maxHeartbeats 400000 in
theorem checkS_any (n : Nat) (s : ByteArray) (w : World) (hn : n < 65129) (hs : s.size ≤ 9223372036854775807) :
    Calls Tryd.prog 27 #[.int .i64 n, .string s] w fun e w' => e = .returned (.int .i64 (chk n (bl s))) ∧ w = w' := by
  have LT := Lib.hid (fun l => chk_lt l n hn)
  have SN : Hid (∀ i (h : i < s.size), chk n ((bl s).take (i + 1)) = chk1 (chk n ((bl s).take i)) s[i]) := fun i h => by
    rw [List.take_add_one, List.getElem?_eq_getElem (by rw [bl_len]; exact h)]
    exact chk_snoc _ _ _
  go_enter Tryd.func27, Tryd.ntmps27
  go_wp2_with fail
  go_loop [0, 5] (fun v i => ∃ k : Nat, k ≤ s.size ∧ i = .int .i64 k ∧ v = .int .i64 (chk n ((bl s).take k))) (fun _ i => s.size - (intOf i).toNat)
  case atStart => exact ⟨0, Nat.zero_le _, rfl, by simp [chk]⟩
  case round =>
    obtain ⟨k, hk, rfl, rfl⟩ := hrel
    by_cases hlt : k < s.size
    · have S := Lib.hid (SN.out k hlt)
      have L1 := LT.out ((bl s).take k)
      have i0 : (0 : Int) ≤ (k : Int) := by omega
      have i1 : (k : Int) < (s.size : Int) := by omega
      obtain ⟨b, hbv⟩ : ∃ b, s[k].toNat = b := ⟨_, rfl⟩
      have hb : b < 256 := by rw [← hbv]; exact s[k].toNat_lt
      have hv : ((s[k].toNat : Nat) : Int) = (b : Int) := by rw [hbv]
      have E : Hid (chk1 (chk n ((bl s).take k)) s[k] = (421 * chk n ((bl s).take k) + b + 19) % 65129) := by rw [Hid, ← hbv]; rfl
      clear hbv
      generalize chk n ((bl s).take k) = a at *
      have e1 : (421 * (a : Int) + (b : Int) + 19).tmod 65129 = (((421 * a + b + 19) % 65129 : Nat) : Int) := by
        rw [Int.tmod_eq_emod_of_nonneg (by omega)]; omega
      go_wp2_with fail
      go_round
      case rel => exact ⟨k + 1, by omega, by go_num, by rw [S.out, E.out]; go_num⟩
      case measure => simp [intOf]; omega
    · obtain rfl : k = s.size := by omega
      go_wp2_with fail
      go_ret
      exact ⟨by rw [List.take_of_length_le (Nat.le_of_eq (bl_len s))]; rfl, rfl⟩
set_option maxHeartbeats 400000 in
theorem check_any (n : Nat) (s : ByteArray) (w : World) (hn : n < 65129) (hs : s.size ≤ 9223372036854775807) :
    Calls Tryd.prog 22 #[.int .i64 n, .string s] w fun e w' => e = .returned (.tuple #[.int .i64 (chk n (bl s)), .bool true]) ∧ w = w' := by
  have LT := Lib.hid (fun l => chk_lt l n hn)
  have SN : Hid (∀ i (h : i < s.size), chk n ((bl s).take (i + 1)) = chk1 (chk n ((bl s).take i)) s[i]) := fun i h => by
    rw [List.take_add_one, List.getElem?_eq_getElem (by rw [bl_len]; exact h)]
    exact chk_snoc _ _ _
  have IN := Lib.hid (in_any n 0 65128 w)
  rw [inB_true (by omega) (by omega)] at IN
  go_enter Tryd.func22, Tryd.ntmps22
  go_wp2_with fail
  refine (IN.out).mono ?_
  rintro e w' ⟨rfl, rfl⟩
  go_wp2_with fail
  go_loop [0, 6, 12] (fun v _ i => ∃ k : Nat, k ≤ s.size ∧ i = .int .i64 k ∧ v = .int .i64 (chk n ((bl s).take k))) (fun _ _ i => s.size - (intOf i).toNat)
  case atStart => exact ⟨0, Nat.zero_le _, rfl, by simp [chk]⟩
  case round =>
    obtain ⟨k, hk, rfl, rfl⟩ := hrel
    by_cases hlt : k < s.size
    · have S := Lib.hid (SN.out k hlt)
      have L1 := LT.out ((bl s).take k)
      have i0 : (0 : Int) ≤ (k : Int) := by omega
      have i1 : (k : Int) < (s.size : Int) := by omega
      obtain ⟨b, hbv⟩ : ∃ b, s[k].toNat = b := ⟨_, rfl⟩
      have hb : b < 256 := by rw [← hbv]; exact s[k].toNat_lt
      have hv : ((s[k].toNat : Nat) : Int) = (b : Int) := by rw [hbv]
      have E : Hid (chk1 (chk n ((bl s).take k)) s[k] = (421 * chk n ((bl s).take k) + b + 19) % 65129) := by rw [Hid, ← hbv]; rfl
      clear hbv
      generalize chk n ((bl s).take k) = a at *
      have e1 : (421 * (a : Int) + (b : Int) + 19).tmod 65129 = (((421 * a + b + 19) % 65129 : Nat) : Int) := by
        rw [Int.tmod_eq_emod_of_nonneg (by omega)]; omega
      go_wp2_with fail
      go_round
      case rel => exact ⟨k + 1, by omega, by go_num, by rw [S.out, E.out]; go_num⟩
      case measure => simp [intOf]; omega
    · obtain rfl : k = s.size := by omega
      go_wp2_with fail
      go_ret2
      exact ⟨by rw [List.take_of_length_le (Nat.le_of_eq (bl_len s))]; rfl, rfl⟩
end Go.Proofs.YtgbciimfpahekaaDoor

namespace Go.Proofs.YtgbciimfpahekaaDoor
open Go.RowKit

theorem itoa_nat (n : Nat) : Lib.itoa (n : Int) = Lib.decDigits n := Lib.itoa_nonneg n
theorem cut_last (t : List UInt8) (b : UInt8) : ∃ m l, (cutL b t).length = m + 1 ∧ (cutL b t)[m]? = some l ∧ (cutL b t).getLast (cutL_ne b t) = l ∧ (cutL b t).dropLast.length = m := by
  have hne := cutL_ne b t
  have hl : 0 < (cutL b t).length := List.length_pos_iff.2 hne
  refine ⟨(cutL b t).length - 1, (cutL b t).getLast hne, by omega, ?_, rfl, by simp⟩
  rw [List.getLast_eq_getElem, List.getElem?_eq_getElem (by omega)]
theorem lnL_at (t : List UInt8) (i : Nat) (h : i < (lnL t).length) : (cutL 10 t)[i]? = some (lnL t)[i] := by
  unfold lnL at h ⊢
  rw [List.getElem_dropLast, List.getElem?_eq_getElem]
set_option maxHeartbeats 1000000 in
theorem linesS_any (s : ByteArray) (w : World) (hs : s.size ≤ 1000000) :
    Calls Tryd.prog 26 #[.string s] w fun e w' => ∃ g c, e = .returned (.tuple #[.slice (some ⟨g, 0, none⟩) (lnL (bl s)).length c, .string (mkB ((cutL 10 (bl s)).getLast (cutL_ne 10 (bl s))))]) ∧
      g < w'.heap.size ∧ (∀ i (h : i < (lnL (bl s)).length), w'.cell? ⟨g, i, none⟩ = some (.string (mkB (lnL (bl s))[i]))) ∧ Below w.heap.size w w' := by
  have C := Lib.hid (cutS_any s 10 w hs)
  obtain ⟨m, l, h1, h2, h3, h4⟩ := cut_last (bl s) 10
  have H4 : Hid ((lnL (bl s)).length = m) := h4
  have H3 := Lib.hid h3
  have CE := Lib.hid (fun i h => lnL_at (bl s) i h)
  rw [h1] at C
  go_enter Tryd.func26, Tryd.ntmps26
  go_wp2_with fail
  refine (C.out).mono ?_
  rintro e w1 ⟨g, c, rfl, ho, hb⟩
  have CA : Hid (∀ i l, (cutL 10 (bl s))[i]? = some l → w1.cell? ⟨g, i, none⟩ = some (.string (mkB l))) := fun i l hi => by
    have hil := (List.getElem?_eq_some_iff.1 hi).1
    rw [ho.cellAt i (by omega), txs_at _ _ hil]
    rw [List.getElem?_eq_getElem hil] at hi
    rw [Option.some.inj hi]
  have gl := (ho.lt g rfl).2
  have c1 := CA.out m l h2
  have hc : m + 1 ≤ c ∧ m + 1 ≤ maxLen := by
    rcases ho.2 with ⟨h, _⟩ | ⟨g', cap', cur, h, _, _, hc, hm, _⟩
    · simp at h
    · simp only [Value.slice.injEq] at h
      obtain ⟨-, -, rfl⟩ := h
      exact ⟨hc, Nat.le_trans hc hm⟩
  obtain ⟨hc1, hc2⟩ := hc
  unfold maxLen at hc2
  have e1 : ((m + 1 : Nat) : Int) - 1 = (m : Int) := by omega
  have e2 : (m : Int) + 1 - 1 = (m : Int) := by omega
  have i1 : (m : Int) < ((m + 1 : Nat) : Int) := by omega
  have i2 : (m : Int) < (m : Int) + 1 := by omega
  have hcm : m ≤ c := by omega
  have RD : Hid (∀ i (h : i < (lnL (bl s)).length), w1.cell? ⟨g, i, none⟩ = some (.string (mkB (lnL (bl s))[i]))) := fun i h => CA.out i _ (CE.out i h)
  clear ho h1 h2 h3 h4
  go_wp2_with fail
  go_region
  all_goals
    go_wp2_with fail
    go_ret2
    exact ⟨g, c, by rw [H4.out, H3.out]; rfl, gl, RD.out, Ext.draw hb⟩
theorem jadd (O D r : List UInt8) : (mkB O) ++ (mkB D ++ ByteArray.mk #[32] ++ mkB r ++ ByteArray.mk #[10]) = mkB (O ++ (D ++ (32 :: (r ++ [10])))) := by
  apply ByteArray.ext
  simp [mkB]
set_option maxRecDepth 100000 in
set_option maxHeartbeats 1000000 in
theorem journalS_any (A : Option Addr) (c : Nat) (rows : List ByteArray) (w : World) (h : Rd w A (strs rows)) (hn : rows.length ≤ 1000000) (hj : (jl 0 (rows.map bl)).length ≤ 1000000000) (hr : ∀ r ∈ rows, r.size ≤ 1000000000) :
    Calls Tryd.prog 19 #[.slice A rows.length c] w fun e w' => e = .returned (.string (mkB (jl 0 (rows.map bl)))) ∧ Below w.heap.size w w' := by
  have HX := Lib.hid (fun V (hb : Below w.heap.size w V) => (h.ext hb).str)
  have HJ : Hid (∀ k, (jl 0 ((rows.map bl).take k)).length ≤ 1000000000) := fun k => Nat.le_trans (jl_mono 0 _ k) hj
  have HS := Lib.hid hr
  have CK : Hid (∀ k, ckL 0 ((rows.map bl).take k) < 65129) := fun k => ckL_lt _ _ (by decide)
  have CS : Hid (∀ k (hk : k < rows.length), ckL 0 ((rows.map bl).take (k + 1)) = chk (ckL 0 ((rows.map bl).take k)) (bl rows[k])) := fun k hk => by
    rw [ckL_take 0 _ k (by simpa using hk)]; simp
  have JS : Hid (∀ k (hk : k < rows.length), mkB (jl 0 ((rows.map bl).take k)) ++ (mkB (Lib.itoa (ckL 0 ((rows.map bl).take (k + 1)) : Nat)) ++ ByteArray.mk #[32] ++ rows[k] ++ ByteArray.mk #[10]) = mkB (jl 0 ((rows.map bl).take (k + 1)))) := fun k hk => by
    rw [jl_take 0 _ k (by simpa using hk), ckL_take 0 _ k (by simpa using hk), itoa_nat]
    have := jadd (jl 0 ((rows.map bl).take k)) (Lib.decDigits (chk (ckL 0 ((rows.map bl).take k)) (bl rows[k]))) (bl rows[k])
    rw [mkB_bl] at this
    simpa [jLine] using this
  obtain ⟨n, hnL⟩ : ∃ n, rows.length = n := ⟨_, rfl⟩
  have HNL := Lib.hid hnL
  rw [hnL] at hn ⊢
  clear h hj hr hnL
  go_enter Tryd.func19, Tryd.ntmps19
  go_wp2_with fail
  go_loopw [3, 4, 5] (fun ov nv iv wr => ∃ k : Nat, k ≤ n ∧ iv = .int .i64 k ∧ ov = .string (mkB (jl 0 ((rows.map bl).take k))) ∧ nv = .int .i64 ((ckL 0 ((rows.map bl).take k) : Nat) : Int) ∧ Below w.heap.size w wr) (fun _ _ iv _ => n - (intOf iv).toNat)
  case atStart => exact ⟨0, Nat.zero_le _, rfl, by simp [jl, mkB], rfl, Ext.refl _⟩
  case round =>
    obtain ⟨k, hk, rfl, rfl, rfl, hb⟩ := hrel
    by_cases hlt : k < n
    · obtain ⟨g, rfl, hg, hc⟩ := HX.out wr hb (by have := HNL.out; omega)
      have c1 := hc k (by have := HNL.out; omega)
      have hkr : k < rows.length := by have := HNL.out; omega
      have J2 := Lib.hid (JS.out k hkr)
      have C2 := Lib.hid (CS.out k hkr)
      have hrs := HS.out rows[k] (List.getElem_mem _)
      have ck1 := CK.out k
      have ck2 := CK.out (k + 1)
      have hO : (mkB (jl 0 ((rows.map bl).take k))).size ≤ 1000000000 := by rw [mkB_size]; exact HJ.out k
      clear hc
      obtain ⟨r, hrr⟩ : ∃ r, rows[k]'hkr = r := ⟨_, rfl⟩
      rw [hrr] at c1 J2 C2 hrs
      obtain ⟨a, ha⟩ : ∃ a, ckL 0 ((rows.map bl).take k) = a := ⟨_, rfl⟩
      obtain ⟨b, hbb⟩ : ∃ b, ckL 0 ((rows.map bl).take (k + 1)) = b := ⟨_, rfl⟩
      obtain ⟨O, hOO⟩ : ∃ O, mkB (jl 0 ((rows.map bl).take k)) = O := ⟨_, rfl⟩
      have BB := Lib.hid hbb
      rw [ha] at ck1 C2 ⊢
      rw [hbb] at ck2 J2 C2
      rw [hOO] at J2 hO ⊢
      have HC := Lib.hid (checkS_any a r wr ck1 (by omega))
      rw [← C2.out] at HC
      have DC := Lib.hid (fun V => decS_any (b : Int) V (by omega) (by omega))
      have hD : (mkB (Lib.itoa (b : Int))).size ≤ 21 := by rw [mkB_size]; exact itoa_len _ (by omega) (by omega)
      have eD : ByteArray.mk (Lib.itoa (b : Int)).toArray = mkB (Lib.itoa (b : Int)) := rfl
      rw [eD] at DC
      obtain ⟨D, hDD⟩ : ∃ D, mkB (Lib.itoa (b : Int)) = D := ⟨_, rfl⟩
      rw [hDD] at DC hD J2
      clear hrr ha hbb hOO hDD eD C2
      have i0 : (0 : Int) ≤ (k : Int) := by omega
      have i1 : (k : Int) < (n : Int) := by omega
      have t1 : ¬ 9223372036854775807 < D.size + 1 := by omega
      have t2 : ¬ 9223372036854775807 < D.size + 1 + r.size := by omega
      have t3 : ¬ 9223372036854775807 < D.size + 1 + r.size + 1 := by omega
      have t4 : ¬ 9223372036854775807 < O.size + (D.size + 1 + r.size + 1) := by omega
      go_wp2_with fail
      refine HC.out.mono ?_
      rintro e w' ⟨rfl, rfl⟩
      go_wp2_with fail
      go_region_held3 (fun w' => w'.cell? ⟨g, k, none⟩ = some (.string r))
        (first | ((go_split_ands; exact (hb'.cell (p := ⟨_, _, none⟩) (by first | omega | (simp; omega) | simp)).trans (by assumption))) | go_keep)
        (first
          | (go_at_call 28; refine (DC.out _).mono ?_; rintro e w4 ⟨rfl, hb'⟩))
      have B4 := Ext.then_ hb (Ext.undraw hb')
      go_wp2_with fail
      go_roundw
      case rel => exact ⟨k + 1, by omega, by go_num, by rw [← J2.out], by rw [BB.out], B4⟩
      case measure => simp [intOf]; omega
    · obtain rfl : k = n := by omega
      have e : Hid ((rows.map bl).take k = rows.map bl) := by rw [Hid]; exact List.take_of_length_le (by rw [List.length_map]; have := HNL.out; omega)
      rw [e.out]
      go_wp2_with fail
      go_ret
      exact ⟨rfl, hb⟩
/-- Whether lines have a journal, and the journal. -/
def jOk (rows : List ByteArray) : Bool := decide ((∀ r ∈ rows, 10 ∉ bl r) ∧ (jl 0 (rows.map bl)).length ≤ 6000)
def jV (rows : List ByteArray) : ByteArray := if jOk rows then mkB (jl 0 (rows.map bl)) else mkB []
theorem jV_no {rows : List ByteArray} (h : jOk rows = false) : jV rows = mkB [] := by rw [jV, h]; rfl
theorem jV_yes {rows : List ByteArray} (h : jOk rows = true) : jV rows = mkB (jl 0 (rows.map bl)) := by rw [jV, h]; rfl
theorem jOk_yes {rows : List ByteArray} (h : ∀ r ∈ rows, 10 ∉ bl r) (h2 : (jl 0 (rows.map bl)).length ≤ 6000) : jOk rows = true := by rw [jOk, decide_eq_true_iff]; exact ⟨h, h2⟩
theorem jOk_long {rows : List ByteArray} (h2 : 6000 < (jl 0 (rows.map bl)).length) : jOk rows = false := by
  rw [jOk, decide_eq_false_iff_not]; exact fun h => absurd h.2 (by omega)
theorem jOk_nl {rows : List ByteArray} {r : ByteArray} (hr : r ∈ rows) (h : 10 ∈ bl r) : jOk rows = false := by
  rw [jOk, decide_eq_false_iff_not]; exact fun h' => h'.1 r hr h
/-- The lines' lengths, and three for each. -/
def tot3 (rows : List ByteArray) (k : Nat) : Nat := ((rows.take k).map fun r => r.size + 3).sum
theorem tot3_succ (rows : List ByteArray) (k : Nat) (h : k < rows.length) : tot3 rows (k + 1) = tot3 rows k + (rows[k].size + 3) := by
  unfold tot3
  rw [List.take_add_one, List.getElem?_eq_getElem h, List.map_append, List.sum_append]
  rfl
theorem jLine_len (m : Nat) (l : List UInt8) (hm : m < 65129) : l.length + 3 ≤ (jLine m l).length ∧ (jLine m l).length ≤ l.length + 7 := by
  have h1 := dec_len_pos m
  have h2 := dec_len m (by omega)
  simp only [jLine, List.length_append, List.length_cons, List.length_nil]
  omega
theorem tot3_jl (rows : List ByteArray) : ∀ k, k ≤ rows.length → tot3 rows k ≤ (jl 0 ((rows.map bl).take k)).length ∧ (jl 0 ((rows.map bl).take k)).length ≤ tot3 rows k + 4 * k
  | 0, _ => by simp [tot3, jl]
  | k + 1, h => by
    have ih := tot3_jl rows k (by omega)
    have hk : k < (rows.map bl).length := by rw [List.length_map]; omega
    have hl := jLine_len (chk (ckL 0 ((rows.map bl).take k)) (rows.map bl)[k]) (rows.map bl)[k] (chk_lt _ _ (ckL_lt _ _ (by decide)))
    rw [jl_take 0 _ k hk, tot3_succ rows k (by omega), List.length_append]
    have e : ((rows.map bl)[k]).length = rows[k].size := by simp [bl_len]
    omega
theorem mem_of_at (s : ByteArray) (j : Nat) (h : j < s.size) (b : UInt8) (e : s[j] = b) : b ∈ bl s := by
  rw [← e]; exact List.getElem_mem (l := bl s) h
theorem not_mem_of (s : ByteArray) (b : UInt8) (h : ∀ j (h : j < s.size), s[j] ≠ b) : b ∉ bl s := fun hm => by
  obtain ⟨j, hj, e⟩ := List.getElem_of_mem hm
  exact h j hj e
set_option maxRecDepth 100000 in
set_option maxHeartbeats 1000000 in
theorem journalOfS_any (A : Option Addr) (c : Nat) (rows : List ByteArray) (w : World) (h : Rd w A (strs rows)) (hn : rows.length ≤ 1048576) (hr : ∀ r ∈ rows, r.size ≤ 1000000000) :
    Calls Tryd.prog 7 #[.slice A rows.length c] w fun e w' => e = .returned (.tuple #[.string (jV rows), .bool (jOk rows)]) ∧ Below w.heap.size w w' := by
  have HX := Lib.hid h.str
  have HS := Lib.hid hr
  have T3 := Lib.hid (fun k h => tot3_succ rows k h)
  have TJ := Lib.hid (tot3_jl rows)
  have JM : Hid (∀ k, (jl 0 ((rows.map bl).take k)).length ≤ (jl 0 (rows.map bl)).length) := fun k => jl_mono 0 _ k
  have RES : Hid (∀ V, Below w.heap.size w V → jOk rows = false → (Ending.returned (.tuple #[.string ⟨#[]⟩, .bool false]) = .returned (.tuple #[.string (jV rows), .bool (jOk rows)]) ∧ Below w.heap.size w V)) := fun V hV hf => by
    rw [jV_no hf, hf]; exact ⟨rfl, hV⟩
  have TA : Hid (rows.take rows.length = rows ∧ (rows.map bl).take rows.length = rows.map bl) := ⟨List.take_length, List.take_of_length_le (by simp)⟩
  have JC := Lib.hid (fun V (hV : Rd V A (strs rows)) hn hj => journalS_any A c rows V hV hn hj hr)
  obtain ⟨n, hnL⟩ : ∃ n, rows.length = n := ⟨_, rfl⟩
  have HNL := Lib.hid hnL
  have HH := Lib.hid h
  rw [hnL] at hn JC ⊢
  clear h hr hnL
  go_enter Tryd.func7, Tryd.ntmps7
  go_wp2_with fail
  go_loopw [4, 5, 6] (fun tv iv _ wr => ∃ k m : Nat, k ≤ n ∧ iv = .int .i64 k ∧ tv = .int .i64 m ∧ Hid (m = tot3 rows k ∧ ∀ i (h : i < rows.length), i < k → 10 ∉ bl rows[i]) ∧ m ≤ 6000 ∧ ∃ j, wr = w.drewN j) (fun _ iv _ _ => n - (intOf iv).toNat)
  case atStart => exact ⟨0, 0, Nat.zero_le _, rfl, rfl, ⟨by simp [tot3], fun _ _ h => absurd h (Nat.not_lt_zero _)⟩, by omega, 0, rfl⟩
  case round =>
    obtain ⟨k, m, hk, rfl, rfl, hI, hm, j, rfl⟩ := hrel
    by_cases hlt : k < n
    · obtain ⟨g, rfl, hg, hc⟩ := HX.out (by have := HNL.out; omega)
      have c1 := hc k (by have := HNL.out; omega)
      have hkr : k < rows.length := by have := HNL.out; omega
      have T := Lib.hid (T3.out k hkr)
      have hrs := HS.out rows[k] (List.getElem_mem _)
      have RM : Hid (rows[k] ∈ rows) := List.getElem_mem _
      have HK : Hid (∀ r, rows[k] = r → 10 ∉ bl r → ∀ i (h : i < rows.length), i < k + 1 → 10 ∉ bl rows[i]) := fun r hr h10 i hi hik => by
        rcases Nat.lt_succ_iff_lt_or_eq.1 hik with h1 | rfl
        · exact hI.out.2 i hi h1
        · rw [hr]; exact h10
      clear hc
      obtain ⟨r, hrr⟩ : ∃ r, rows[k]'hkr = r := ⟨_, rfl⟩
      have HRR := Lib.hid hrr
      rw [hrr] at c1 T hrs RM
      have M2 : Hid (m + (r.size + 3) = tot3 rows (k + 1)) := by rw [Hid, T.out, hI.out.1]
      have NL : Hid (10 ∈ bl r → jOk rows = false) := fun h => jOk_nl RM.out h
      have HKR : Hid (10 ∉ bl r → ∀ i (h : i < rows.length), i < k + 1 → 10 ∉ bl rows[i]) := HK.out r hrr
      clear hrr T RM HK hI
      have i0 : (0 : Int) ≤ (k : Int) := by omega
      have i1 : (k : Int) < (n : Int) := by omega
      by_cases hbig : 6000 < m + (r.size + 3)
      · have F : Hid (jOk rows = false) := jOk_long (by have h1 := (TJ.out (k + 1) (by omega)).1; have h2 := JM.out (k + 1); have h3 := M2.out; omega)
        have q1 : (6000 : Int) < (m : Int) + ((r.size : Int) + 3) := by omega
        go_wp2_with fail
        go_ret2
        exact RES.out _ (Ext.drawN (Ext.refl _) _) F.out
      have q1 : ¬ (6000 : Int) < (m : Int) + ((r.size : Int) + 3) := by omega
      go_wp2_with fail
      go_loopw [6] (fun kv wi => ∃ q : Nat, q ≤ r.size ∧ kv = .int .i64 q ∧ Hid (∀ i (h : i < r.size), i < q → r[i] ≠ 10) ∧ ∃ j, wi = w.drewN j) (fun kv _ => r.size - (intOf kv).toNat)
      case atStart => exact ⟨0, Nat.zero_le _, rfl, fun _ _ h => absurd h (Nat.not_lt_zero _), j, rfl⟩
      case round =>
        obtain ⟨q, hq, rfl, hq2, j, rfl⟩ := hrel
        by_cases hql : q < r.size
        · have p0 : (0 : Int) ≤ (q : Int) := by omega
          have p1 : (q : Int) < (r.size : Int) := by omega
          by_cases h10 : r[q] = 10
          · have F := Lib.hid (NL.out (mem_of_at r q hql 10 h10))
            have hv : ((r[q].toNat : Nat) : Int) = 10 := by rw [h10]; rfl
            clear h10
            go_wp2_with fail
            go_ret2
            exact RES.out _ (Ext.drawN (Ext.refl _) _) F.out
          · have hv : (((r[q].toNat : Nat) : Int) == 10) = false := byte_ne (b := 10) h10
            have Q2 : Hid (∀ i (h : i < r.size), i < q + 1 → r[i] ≠ 10) := fun i h hi => by
              rcases Nat.lt_succ_iff_lt_or_eq.1 hi with h1 | rfl
              · exact hq2.out i h h1
              · exact h10
            clear h10
            go_wp2_with fail
            go_roundw
            case rel => exact ⟨q + 1, by omega, by go_num, Q2, _, rfl⟩
            case measure => simp [intOf]; omega
        · obtain rfl : q = r.size := by omega
          have N10 := Lib.hid (HKR.out (not_mem_of r 10 (fun i h => hq2.out i h h)))
          go_wp2_with fail
          go_roundw
          case rel => exact ⟨k + 1, m + (r.size + 3), by omega, by go_num, by go_num, ⟨M2.out, N10.out⟩, by omega, _, rfl⟩
          case measure => simp [intOf]; omega
    · obtain rfl : k = n := by omega
      have LB := (TJ.out k (by have := HNL.out; omega)).2
      have LK : k ≤ tot3 rows k := by
        have h1 := HNL.out
        have : ∀ i, i ≤ rows.length → i ≤ tot3 rows i := by
          intro i
          induction i with
          | zero => intro _; exact Nat.zero_le _
          | succ i ih => intro h; have := ih (by omega); rw [tot3_succ rows i (by omega)]; omega
        exact this k (by omega)
      have MM := hI.out.1
      have AL : Hid (∀ r ∈ rows, 10 ∉ bl r) := fun r hr => by
        obtain ⟨i, hi, rfl⟩ := List.getElem_of_mem hr
        exact hI.out.2 i hi (by have := HNL.out; omega)
      have e : (rows.map bl).take k = rows.map bl := by rw [← HNL.out]; exact TA.out.2
      rw [e] at LB
      have JJ := Lib.hid (JC.out (w.drewN j) (HH.out.drewN j) (by omega) (by omega))
      have LL : Hid ((jl 0 (rows.map bl)).length = (mkB (jl 0 (rows.map bl))).size) := (mkB_size _).symm
      have hsz : (mkB (jl 0 (rows.map bl))).size ≤ 30000 := by rw [← LL.out]; omega
      have YES : Hid ((mkB (jl 0 (rows.map bl))).size ≤ 6000 → jOk rows = true ∧ jV rows = mkB (jl 0 (rows.map bl))) := fun h => by
        have := jOk_yes AL.out (by rw [LL.out]; exact h)
        exact ⟨this, jV_yes this⟩
      have NO : Hid (6000 < (mkB (jl 0 (rows.map bl))).size → jOk rows = false) := fun h => jOk_long (by rw [LL.out]; exact h)
      clear LB LK MM e hI
      generalize mkB (jl 0 (rows.map bl)) = J at *
      go_wp2_with fail
      refine JJ.out.mono ?_
      rintro e w2 ⟨rfl, hb⟩
      have B2 : Below w.heap.size w w2 := Ext.undrawN (n := j) (by exact hb)
      by_cases hbig : J.size ≤ 6000
      · have Y := Lib.hid (YES.out hbig)
        have q1 : ¬ (6000 : Int) < (J.size : Int) := by omega
        go_wp2_with fail
        go_ret2
        exact ⟨by rw [Y.out.1, Y.out.2]; rfl, B2⟩
      · have F := Lib.hid (NO.out (by omega))
        have q1 : (6000 : Int) < (J.size : Int) := by omega
        go_wp2_with fail
        go_ret2
        exact RES.out _ B2 F.out
end Go.Proofs.YtgbciimfpahekaaDoor
