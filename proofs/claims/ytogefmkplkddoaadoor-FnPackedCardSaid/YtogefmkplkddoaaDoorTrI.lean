/- Trees of squares: the program's reading. -/
import Derived.Test.YtogefmkplkddoaaDoorTrP
import Derived.Test.YtogefmkplkddoaaDoorMem
import Derived.Deep.RegionLaw
import Derived.Deep.RegionHeld3
import Derived.Lib.Strings
namespace Go.Proofs.YtogefmkplkddoaaDoor
open Go.RowKit

/-- Some squares in a row, read one after another. -/
def rdK (k : Bool) (n : Nat) (l : List UInt8) : Nat → Option (List QT × List UInt8)
  | 0 => some ([], l)
  | m + 1 => (rdK k n l m).bind fun a => (rd k n a.2).bind fun b => some (a.1 ++ [b.1], b.2)
theorem rdK_none {k : Bool} {n : Nat} {l : List UInt8} {m : Nat} (h : rdK k n l m = none) : ∀ d, rdK k n l (m + d) = none
  | 0 => h
  | d + 1 => by rw [show m + (d + 1) = m + d + 1 from rfl, rdK, rdK_none h d]; rfl
theorem rd_kids (k : Bool) (n : Nat) (r : List UInt8) : rd k (n + 1) (40 :: r) = (rdK k n r 4).bind fun a => match a.1 with
    | [a1, a2, a3, a4] => rdE k a1 a2 a3 a4 a.2
    | _ => none := by
  rw [rd_node]
  simp only [rdK, Option.bind_some]
  cases h1 : rd k n r with
  | none => rfl
  | some a =>
    simp only [Option.bind_some]
    cases h2 : rd k n a.2 with
    | none => rfl
    | some b =>
      simp only [Option.bind_some]
      cases h3 : rd k n b.2 with
      | none => rfl
      | some c =>
        simp only [Option.bind_some]
        cases h4 : rd k n c.2 with
        | none => rfl
        | some d => simp
theorem rdK_length {k : Bool} {n : Nat} {l : List UInt8} : ∀ {m : Nat} {ks : List QT} {r : List UInt8}, rdK k n l m = some (ks, r) → ks.length = m
  | 0, ks, r, h => by simp only [rdK] at h; cases h; rfl
  | m + 1, ks, r, h => by
    rw [rdK] at h
    cases h1 : rdK k n l m with
    | none => rw [h1] at h; cases h
    | some a =>
      rw [h1] at h
      simp only [Option.bind_some] at h
      cases h2 : rd k n a.2 with
      | none => rw [h2] at h; cases h
      | some b =>
        rw [h2] at h
        simp only [Option.bind_some] at h
        cases h
        have := rdK_length (ks := a.1) (r := a.2) h1
        rw [List.length_append, this]; rfl
theorem rdK_txt {k : Bool} {n : Nat} {l : List UInt8} : ∀ {m : Nat} {ks : List QT} {r : List UInt8}, rdK k n l m = some (ks, r) → l = (ks.map QT.txt).flatten ++ r
  | 0, ks, r, h => by simp only [rdK] at h; cases h; rfl
  | m + 1, ks, r, h => by
    rw [rdK] at h
    cases h1 : rdK k n l m with
    | none => rw [h1] at h; cases h
    | some a =>
      rw [h1] at h
      simp only [Option.bind_some] at h
      cases h2 : rd k n a.2 with
      | none => rw [h2] at h; cases h
      | some b =>
        rw [h2] at h
        simp only [Option.bind_some] at h
        cases h
        obtain ⟨e1, _⟩ := rd_some n a.2 b.1 b.2 h2
        rw [rdK_txt (ks := a.1) (r := a.2) h1, e1]
        simp
/-- A leaf of a tree. -/
structure Lf where
  x : Nat
  y : Nat
  s : Nat
  b : Bool
  a : ByteArray
def lfV (l : Lf) : List Value := [.int .i64 l.x, .int .i64 l.y, .int .i64 l.s, .bool l.b, .string l.a]
def lfC (L : List Lf) : List Value := (L.map lfV).flatten
theorem lfC_app (L M : List Lf) : lfC (L ++ M) = lfC L ++ lfC M := by simp [lfC]
theorem lfC_len (L : List Lf) : (lfC L).length = 5 * L.length := by
  induction L with
  | nil => rfl
  | cons l L ih => rw [show l :: L = [l] ++ L from rfl, lfC_app, List.length_append, ih]; simp [lfC, lfV]; omega
theorem lfC_cons (l : Lf) (L : List Lf) : lfC (l :: L) = lfV l ++ lfC L := by simp [lfC]
theorem lfC_at : ∀ (L : List Lf) (k : Nat) (h : k < L.length) (j : Nat) (_ : j < 5), (lfC L)[k * 5 + j]? = (lfV L[k])[j]?
  | [], k, h, _, _ => absurd h (Nat.not_lt_zero _)
  | l :: L, 0, _, j, hj => by
    rw [lfC_cons, List.getElem?_append_left (by simp [lfV]; omega)]
    simp
  | l :: L, k + 1, h, j, hj => by
    rw [lfC_cons, List.getElem?_append_right (by simp [lfV]; omega)]
    have := lfC_at L k (by simpa using h) j hj
    rw [show (k + 1) * 5 + j - (lfV l).length = k * 5 + j by simp [lfV]; omega, this]
    simp
def dig (k : Nat) : ByteArray := ⟨#[UInt8.ofNat (48 + k)]⟩
/-- The leaves of a tree. -/
def QT.lf : Nat → QT → Nat → Nat → ByteArray → List Lf
  | n, .leaf b, x, y, a => [⟨x, y, 2 ^ n, b, a⟩]
  | 0, .node .., _, _, _ => []
  | n + 1, .node p q r s, x, y, a => p.lf n x y (a ++ dig 0) ++ (q.lf n (x + 2 ^ n) y (a ++ dig 1) ++ (r.lf n x (y + 2 ^ n) (a ++ dig 2) ++ s.lf n (x + 2 ^ n) (y + 2 ^ n) (a ++ dig 3)))
def qX (x h k : Nat) : Nat := x + (k % 2) * h
def qY (y h k : Nat) : Nat := y + (k / 2) * h
/-- The leaves of the first quarters. -/
def kidL (n x y : Nat) (a : ByteArray) : Nat → List QT → List Lf
  | _, [] => []
  | k, q :: qs => q.lf n (qX x (2 ^ n) k) (qY y (2 ^ n) k) (a ++ dig k) ++ kidL n x y a (k + 1) qs
theorem kidL_snoc (n x y : Nat) (a : ByteArray) : ∀ (qs : List QT) (k : Nat) (q : QT), kidL n x y a k (qs ++ [q]) = kidL n x y a k qs ++ q.lf n (qX x (2 ^ n) (k + qs.length)) (qY y (2 ^ n) (k + qs.length)) (a ++ dig (k + qs.length))
  | [], k, q => by simp [kidL]
  | p :: qs, k, q => by
    have := kidL_snoc n x y a qs (k + 1) q
    simp only [List.cons_append, kidL, this, List.append_assoc, List.length_cons]
    rw [show k + 1 + qs.length = k + (qs.length + 1) by omega]
theorem kidL_four (n x y : Nat) (a : ByteArray) (p q r s : QT) : kidL n x y a 0 [p, q, r, s] = QT.lf (n + 1) (.node p q r s) x y a := by
  simp [kidL, QT.lf, qX, qY]
theorem lf_len : ∀ (n : Nat) (T : QT), T.fits n = true → ∀ x y a, (T.lf n x y a).length ≤ 4 ^ n
  | n, .leaf b, _, x, y, a => by cases n <;> simp [QT.lf, Nat.one_le_pow]
  | 0, .node .., h, _, _, _ => by cases h
  | n + 1, .node p q r s, h, x, y, a => by
    simp only [QT.fits, Bool.and_eq_true] at h
    have h1 := lf_len n p h.1 x y (a ++ dig 0)
    have h2 := lf_len n q h.2.1 (x + 2 ^ n) y (a ++ dig 1)
    have h3 := lf_len n r h.2.2.1 x (y + 2 ^ n) (a ++ dig 2)
    have h4 := lf_len n s h.2.2.2 (x + 2 ^ n) (y + 2 ^ n) (a ++ dig 3)
    simp only [QT.lf, List.length_append, Nat.pow_succ]
    omega
theorem leafT : ElemT 82 91 (.agg #[.int .i64 0, .int .i64 0, .int .i64 0, .bool false, .string ByteArray.empty]) 5 48 := ⟨Tryd.underlying82, by kernel_rfl, rfl, by decide, by decide⟩
/-- The quarters of a square, as cells. -/
def qtC (x y h : Nat) : Array Value := #[.int .i64 x, .int .i64 y, .int .i64 h, .int .i64 (x + h : Nat), .int .i64 y, .int .i64 h, .int .i64 x, .int .i64 (y + h : Nat), .int .i64 h, .int .i64 (x + h : Nat), .int .i64 (y + h : Nat), .int .i64 h]
theorem qtC_at (x y h k : Nat) (hk : k < 4) : (qtC x y h)[k * 3]? = some (.int .i64 (qX x h k : Nat)) ∧ (qtC x y h)[k * 3 + 1]? = some (.int .i64 (qY y h k : Nat)) ∧ (qtC x y h)[k * 3 + 2]? = some (.int .i64 h) := by
  rcases (show k = 0 ∨ k = 1 ∨ k = 2 ∨ k = 3 by omega) with rfl | rfl | rfl | rfl <;> simp [qtC, qX, qY]
set_option maxRecDepth 100000 in
set_option maxHeartbeats 1000000 in
theorem quarters_any (x y h S : Nat) (hS : S = 2 * h) (w : World) (hx : x ≤ 1000) (hy : y ≤ 1000) (hh : h ≤ 1000) :
    Calls Tryd.prog 110 #[.agg #[.int .i64 x, .int .i64 y, .int .i64 S]] w fun e w' => ∃ g, e = .returned (.slice (some ⟨g, 0, none⟩) 4 4) ∧
      Blk w' g 89 (qtC x y h) ∧ Below w.heap.size w w' := by
  obtain ⟨w1, hw1⟩ : ∃ w1, w.alloc (.cells #[.int .i64 x, .int .i64 y, .int .i64 S] 89) = w1 := ⟨_, rfl⟩
  have T1 : Blk w1 w.heap.size 89 #[.int .i64 x, .int .i64 y, .int .i64 S] := by rw [← hw1]; exact Blk.made _ _ _
  have B1 : Below w.heap.size w w1 := by rw [← hw1]; exact Ext.more (Ext.refl _) _
  have HW := Lib.hid hw1
  have c0 := T1.cell 0
  have c1 := T1.cell 1
  have c2 := T1.cell 2
  simp at c0 c1 c2
  have e2 : (S : Int).tdiv 2 = (h : Int) := by rw [Int.tdiv_eq_ediv_of_nonneg (by omega)]; omega
  clear hw1 hS
  go_enter Tryd.func110, Tryd.ntmps110
  go_wp2_with fail
  try simp only [HW.out]
  go_ret
  refine ⟨w.heap.size + 1, rfl, ?_, ?_⟩
  · have := Blk.made w1 89 (qtC x y h)
    rw [← HW.out] at this ⊢
    simpa [qtC] using this
  · exact Ext.more B1 _
/-- append of a whole slice to one of the call's own that is not nil. -/
theorem wpList_appT {T e : TypeId} {z : Value} {size bytes : Nat} (E : ElemT T e z size bytes) {w : World} {ops : Array Oper} {rest : List Oper} {o : Oper} {a : Act} {Q : Exit → Act → World → Prop} (hgd : o.guard = none) (s x : Operand)
    (ho : o.op = .call { callee := .builtin .append, args := #[s, x], argTypes := #[T, T] })
    (base : Nat) (v : Value) (n : Nat) (xs : List Value) (hs : a.eval s = v) (hown : w.ownsRow base e size v n xs)
    (g m c : Nat) (news : List Value) (hx : a.eval x = .slice (some ⟨g, 0, none⟩) m c) (hl : news.length = m * size) (hnews : ∀ j u, news[j]? = some u → w.cell? ((⟨g, 0, none⟩ : Addr).add j) = some u) (h1 : ∀ u ∈ news, u.oneCell' = true)
    (hn : n + m ≤ 1000000000) (hbase : base ≤ w.heap.size) (hv : v ≠ .slice none 0 0)
    (h : ∀ g cap w', w'.ownsRow base e size (.slice (some ⟨g, 0, none⟩) (n + m) cap) (n + m) (xs ++ news) → w.grownBy w' v.ownBlock → wpList Tryd.prog ops Q rest (a.put o.dst (.slice (some ⟨g, 0, none⟩) (n + m) cap)) w') : wpList Tryd.prog ops Q (o :: rest) a w := by
  obtain ⟨i0, hi, hz0, hz1, hz2⟩ := info_parts E.info
  have hsm := E.small
  refine wpList_append_own w hgd s x T ho base e i0 z size bytes E.under hi hz0 hz1 hz2 E.cells E.pos v n xs hs hown ⟨g, 0, none⟩ m c news hx hl hnews h1 (by unfold maxLen; omega) ?_ hbase ?_
  · have : (n + m) * bytes ≤ 1000000001 * 64 := Nat.mul_le_mul (by omega) hsm
    omega
  · intro v' w' hown' hg hnil
    have hne : v' ≠ .slice none 0 0 := fun e => hv (hnil.1 e).1
    rcases hown'.2 with ⟨e, _⟩ | ⟨g', c', _, rfl, _⟩
    · exact absurd e hne
    · exact h g' c' w' hown' hg
theorem lfC_one (L : List Lf) : ∀ u ∈ lfC L, u.oneCell' = true := fun u hu => by
  obtain ⟨l, hl, hu2⟩ := List.mem_flatten.1 hu
  obtain ⟨f, _, rfl⟩ := List.mem_map.1 hl
  simp only [lfV, List.mem_cons, List.not_mem_nil, or_false] at hu2
  rcases hu2 with rfl | rfl | rfl | rfl | rfl <;> rfl
theorem own_lf {w : World} {base base' g n cap : Nat} {xs : List Value} (h : w.ownsRow base 91 5 (.slice (some ⟨g, 0, none⟩) n cap) n xs) (hb : base' ≤ base) {ys : List Value} {m : Nat} (hx : xs = ys) (hn : n = m) : w.ownsRow base' 91 5 (.slice (some ⟨g, 0, none⟩) m cap) m ys := by
  subst hx hn; exact own_base h hb
set_option maxRecDepth 100000 in
theorem dig_conv (k : Nat) (hk : k < 4) (w : World) : (convert 5 9 (.int .u8 (48 + (k : Int)))).run Tryd.prog w = .ok (.string (dig k)) w := by
  rcases (show k = 0 ∨ k = 1 ∨ k = 2 ∨ k = 3 by omega) with rfl | rfl | rfl | rfl <;> rfl
/-- A call has returned the leaves of a square of a text, and where it ends. -/
def RsRes (n : Nat) (t : ByteArray) (p x y : Nat) (a : ByteArray) (w : World) (e : Ending) (w' : World) : Prop :=
  Below w.heap.size w w' ∧ match rd true n (t.data.toList.drop p) with
    | none => e = .returned (.tuple #[.slice none 0 0, .int .i64 (-1)])
    | some (T, r) => ∃ g c, e = .returned (.tuple #[.slice (some ⟨g, 0, none⟩) (T.lf n x y a).length c, .int .i64 ((t.size - r.length : Nat) : Int)]) ∧
        w'.ownsRow w.heap.size 91 5 (.slice (some ⟨g, 0, none⟩) (T.lf n x y a).length c) (T.lf n x y a).length (lfC (T.lf n x y a))
theorem RsRes.no {n : Nat} {t : ByteArray} {p x y : Nat} {a : ByteArray} {w w' : World} (hb : Below w.heap.size w w') (h : rd true n (t.data.toList.drop p) = none) : RsRes n t p x y a w (.returned (.tuple #[.slice none 0 0, .int .i64 (-1)])) w' := by
  refine ⟨hb, ?_⟩
  rw [h]
theorem RsRes.yes {n : Nat} {t : ByteArray} {p x y : Nat} {a : ByteArray} {w w' : World} {T : QT} {r : List UInt8} {L : List Lf} {m q g c : Nat} (hb : Below w.heap.size w w') (h : rd true n (t.data.toList.drop p) = some (T, r)) (hL : T.lf n x y a = L) (hm : L.length = m) (hq : t.size - r.length = q)
    (ho : w'.ownsRow w.heap.size 91 5 (.slice (some ⟨g, 0, none⟩) m c) m (lfC L)) : RsRes n t p x y a w (.returned (.tuple #[.slice (some ⟨g, 0, none⟩) m c, .int .i64 q])) w' := by
  refine ⟨hb, ?_⟩
  rw [h]
  subst hL hm hq
  exact ⟨g, c, rfl, ho⟩
set_option maxRecDepth 100000 in
set_option maxHeartbeats 4000000 in
theorem readSq_any (t : ByteArray) (ht : t.size ≤ 1048576) : ∀ (n : Nat), n ≤ 4 → ∀ (S p x y : Nat) (a : ByteArray) (w : World), S = 2 ^ n → p ≤ t.size + 1 → x + S ≤ 100 → y + S ≤ 100 → a.size + n ≤ 100 →
    Calls Tryd.prog 97 #[.string t, .int .i64 p, .agg #[.int .i64 x, .int .i64 y, .int .i64 S], .string a] w (RsRes n t p x y a w) := by
  intro n
  induction n with
  | zero =>
    intro _ S p x y a w hS hp hx hy ha
    rw [Nat.pow_zero] at hS
    subst hS
    have HLN : Hid (t.data.toList.length = t.size) := rfl
    obtain ⟨w1, hw1⟩ : ∃ w1, w.alloc (.cells #[.int .i64 x, .int .i64 y, .int .i64 (1 : Nat)] 89) = w1 := ⟨_, rfl⟩
    have T1 : Blk w1 w.heap.size 89 #[.int .i64 x, .int .i64 y, .int .i64 (1 : Nat)] := by rw [← hw1]; exact Blk.made _ _ _
    have B1 : Below w.heap.size w w1 := by rw [← hw1]; exact Ext.more (Ext.refl _) _
    have hw2 : w.alloc (.cells #[.int .i64 x, .int .i64 y, .int .i64 1] 89) = w1 := hw1
    have HW := Lib.hid hw2
    clear hw1 hw2
    by_cases hend : t.size ≤ p
    · have F : Hid (rd true 0 (t.data.toList.drop p) = none) := by rw [Hid, List.drop_of_length_le (by have := HLN.out; omega), rd_nil]
      have q : (p : Int) ≥ (t.size : Int) := by omega
      go_enter Tryd.func97, Tryd.ntmps97
      go_wp2_with fail
      try simp only [HW.out]
      go_ret2
      exact RsRes.no B1 F.out
    have hpt : p < t.size := by omega
    have q1 : ¬ (p : Int) ≥ (t.size : Int) := by omega
    have p0 : (0 : Int) ≤ (p : Int) := by omega
    have p1 : (p : Int) < (t.size : Int) := by omega
    have hD : t.data.toList.drop p = t[p] :: t.data.toList.drop (p + 1) := List.drop_eq_getElem_cons (by have := HLN.out; omega)
    have c0 := T1.cell 0
    have c1 := T1.cell 1
    have c2 := T1.cell 2
    simp at c0 c1 c2
    by_cases hl : t[p] = 35 ∨ t[p] = 46
    · have F : Hid (rd true 0 (t.data.toList.drop p) = some (.leaf (t[p] == 35), t.data.toList.drop (p + 1))) := by rw [Hid, hD, rd_leaf _ _ hl]
      have LQ : Hid (t.size - (t.data.toList.drop (p + 1)).length = p + 1) := by rw [Hid, List.length_drop]; have := HLN.out; omega
      obtain ⟨β, hβ⟩ : ∃ β, (t[p] == 35) = β := ⟨_, rfl⟩
      have LF : Hid (QT.lf 0 (.leaf β) x y a = [⟨x, y, 1, β, a⟩]) := rfl
      rw [hβ] at F
      have hv : (((t[p].toNat : Nat) : Int) == 35) = β := by
        rw [← hβ]
        rcases hl with e | e <;> rw [e] <;> rfl
      have hv2 : (((t[p].toNat : Nat) : Int) == 35) = false → ((t[p].toNat : Nat) : Int) = 46 := fun h => by
        rcases hl with e | e
        · rw [e] at h; cases h
        · rw [e]; rfl
      clear hl hβ hD
      cases β
      · have hv3 := hv2 hv
        clear hv2
        go_enter Tryd.func97, Tryd.ntmps97
        go_wp2_with fail
        try simp only [HW.out]
        go_region
        all_goals
          go_wp2_with fail
          go_ret2
          exact RsRes.yes (q := p + 1) (Ext.more (Ext.draw B1) _) F.out LF.out rfl LQ.out (own_lf (World.ownsRow_lit (e := 91) (size := 5) w1 #[.int .i64 x, .int .i64 y, .int .i64 1, .bool false, .string a] 1 (Nat.le_refl _) (by decide) rfl) B1.size (by simp [lfC, lfV]) rfl)
      · clear hv2
        go_enter Tryd.func97, Tryd.ntmps97
        go_wp2_with fail
        try simp only [HW.out]
        go_region
        all_goals
          go_wp2_with fail
          go_ret2
          exact RsRes.yes (q := p + 1) (Ext.more (Ext.draw B1) _) F.out LF.out rfl LQ.out (own_lf (World.ownsRow_lit (e := 91) (size := 5) w1 #[.int .i64 x, .int .i64 y, .int .i64 1, .bool true, .string a] 1 (Nat.le_refl _) (by decide) rfl) B1.size (by simp [lfC, lfV]) rfl)
    have F : Hid (rd true 0 (t.data.toList.drop p) = none) := by rw [Hid, hD, rd_bad0 _ hl]
    have hv35 : (((t[p].toNat : Nat) : Int) == 35) = false := by
      rw [beq_eq_false_iff_ne]; intro e; exact hl (.inl (UInt8.toNat_inj.1 (by rw [show (35 : UInt8).toNat = 35 from rfl]; omega)))
    have hv46 : (((t[p].toNat : Nat) : Int) == 46) = false := by
      rw [beq_eq_false_iff_ne]; intro e; exact hl (.inr (UInt8.toNat_inj.1 (by rw [show (46 : UInt8).toNat = 46 from rfl]; omega)))
    clear hl hD
    cases h40 : (((t[p].toNat : Nat) : Int) == 40)
    · have hv40 : (((t[p].toNat : Nat) : Int) != 40) = true := by rw [bne, h40]; rfl
      go_enter Tryd.func97, Tryd.ntmps97
      go_wp2_with fail
      try simp only [HW.out]
      go_ret2
      exact RsRes.no B1 F.out
    · have hv40 : ((t[p].toNat : Nat) : Int) = 40 := by simpa using h40
      clear h40
      go_enter Tryd.func97, Tryd.ntmps97
      go_wp2_with fail
      try simp only [HW.out]
      go_ret2
      exact RsRes.no B1 F.out
  | succ n ih =>
    intro hn S p x y a w hS hp hx hy ha
    obtain ⟨h, hh⟩ : ∃ h, 2 ^ n = h := ⟨_, rfl⟩
    have hS2 : S = 2 * h := by rw [hS, Nat.pow_succ, ← hh]; omega
    have h0 : 0 < h := by rw [← hh]; exact Nat.pow_pos (by decide)
    have h8 : h ≤ 8 := by
      rw [← hh]
      exact Nat.le_trans (Nat.pow_le_pow_right (by decide) (show n ≤ 3 by omega)) (by decide)
    have IH := Lib.hid (fun p x y a w => ih (by omega) h p x y a w hh.symm)
    have HH := Lib.hid hh
    clear ih hS hh
    have hlen : t.data.toList.length = t.size := rfl
    obtain ⟨w1, hw1⟩ : ∃ w1, w.alloc (.cells #[.int .i64 x, .int .i64 y, .int .i64 S] 89) = w1 := ⟨_, rfl⟩
    have T1 : Blk w1 w.heap.size 89 #[.int .i64 x, .int .i64 y, .int .i64 S] := by rw [← hw1]; exact Blk.made _ _ _
    have B1 : Below w.heap.size w w1 := by rw [← hw1]; exact Ext.more (Ext.refl _) _
    have HW := Lib.hid hw1
    have HLN := Lib.hid hlen
    have HS2 := Lib.hid hS2
    clear hw1 hlen hS2
    by_cases hend : t.size ≤ p
    · have F : Hid (rd true (n + 1) (t.data.toList.drop p) = none) := by rw [Hid, List.drop_of_length_le (by have := HLN.out; omega), rd_nil]
      have q : (p : Int) ≥ (t.size : Int) := by omega
      go_enter Tryd.func97, Tryd.ntmps97
      go_wp2_with fail
      try simp only [HW.out]
      go_ret2
      exact RsRes.no B1 F.out
    have hpt : p < t.size := by omega
    have q1 : ¬ (p : Int) ≥ (t.size : Int) := by omega
    have p0 : (0 : Int) ≤ (p : Int) := by omega
    have p1 : (p : Int) < (t.size : Int) := by omega
    have hD : t.data.toList.drop p = t[p] :: t.data.toList.drop (p + 1) := List.drop_eq_getElem_cons (by have := HLN.out; omega)
    by_cases hl : t[p] = 35 ∨ t[p] = 46
    · have F : Hid (rd true (n + 1) (t.data.toList.drop p) = some (.leaf (t[p] == 35), t.data.toList.drop (p + 1))) := by rw [Hid, hD, rd_leaf _ _ hl]
      have LQ : Hid (t.size - (t.data.toList.drop (p + 1)).length = p + 1) := by rw [Hid, List.length_drop]; have := HLN.out; omega
      obtain ⟨β, hβ⟩ : ∃ β, (t[p] == 35) = β := ⟨_, rfl⟩
      have LF : Hid (QT.lf (n + 1) (.leaf β) x y a = [⟨x, y, S, β, a⟩]) := by rw [Hid, QT.lf, Nat.pow_succ, HH.out, HS2.out, Nat.mul_comm]
      rw [hβ] at F
      have hv : (((t[p].toNat : Nat) : Int) == 35) = β := by
        rw [← hβ]
        rcases hl with e | e <;> rw [e] <;> rfl
      have hv2 : (((t[p].toNat : Nat) : Int) == 35) = false → ((t[p].toNat : Nat) : Int) = 46 := fun h => by
        rcases hl with e | e
        · rw [e] at h; cases h
        · rw [e]; rfl
      have c0 := T1.cell 0
      have c1 := T1.cell 1
      have c2 := T1.cell 2
      simp at c0 c1 c2
      clear hl hβ hD
      cases β
      · have hv3 := hv2 hv
        clear hv2
        go_enter Tryd.func97, Tryd.ntmps97
        go_wp2_with fail
        try simp only [HW.out]
        go_region
        all_goals
          go_wp2_with fail
          go_ret2
          exact RsRes.yes (q := p + 1) (Ext.more (Ext.draw B1) _) F.out LF.out rfl LQ.out (own_lf (World.ownsRow_lit (e := 91) (size := 5) w1 #[.int .i64 x, .int .i64 y, .int .i64 S, .bool false, .string a] 1 (Nat.le_refl _) (by decide) rfl) B1.size (by simp [lfC, lfV]) rfl)
      · clear hv2
        go_enter Tryd.func97, Tryd.ntmps97
        go_wp2_with fail
        try simp only [HW.out]
        go_region
        all_goals
          go_wp2_with fail
          go_ret2
          exact RsRes.yes (q := p + 1) (Ext.more (Ext.draw B1) _) F.out LF.out rfl LQ.out (own_lf (World.ownsRow_lit (e := 91) (size := 5) w1 #[.int .i64 x, .int .i64 y, .int .i64 S, .bool true, .string a] 1 (Nat.le_refl _) (by decide) rfl) B1.size (by simp [lfC, lfV]) rfl)
    have hv35 : (((t[p].toNat : Nat) : Int) == 35) = false := by
      rw [beq_eq_false_iff_ne]; intro e; exact hl (.inl (UInt8.toNat_inj.1 (by rw [show (35 : UInt8).toNat = 35 from rfl]; omega)))
    have hv46 : (((t[p].toNat : Nat) : Int) == 46) = false := by
      rw [beq_eq_false_iff_ne]; intro e; exact hl (.inr (UInt8.toNat_inj.1 (by rw [show (46 : UInt8).toNat = 46 from rfl]; omega)))
    by_cases h40 : t[p] = 40
    case neg =>
      have F : Hid (rd true (n + 1) (t.data.toList.drop p) = none) := by rw [Hid, hD, rd_bad _ _ hl h40]
      have hv40 : (((t[p].toNat : Nat) : Int) == 40) = false := by
        rw [beq_eq_false_iff_ne]; intro e; exact h40 (UInt8.toNat_inj.1 (by rw [show (40 : UInt8).toNat = 40 from rfl]; omega))
      clear hl hD h40
      go_enter Tryd.func97, Tryd.ntmps97
      go_wp2_with fail
      try simp only [HW.out]
      go_ret2
      exact RsRes.no B1 F.out
    have hv40 : ((t[p].toNat : Nat) : Int) = 40 := by rw [h40]; rfl
    have FK : Hid (rd true (n + 1) (t.data.toList.drop p) = (rdK true n (t.data.toList.drop (p + 1)) 4).bind fun a => match a.1 with
      | [a1, a2, a3, a4] => rdE true a1 a2 a3 a4 a.2
      | _ => none) := by rw [Hid, hD, h40, rd_kids]
    have hS1 : ((S : Int) == 1) = false := by rw [beq_eq_false_iff_ne]; have := HS2.out; omega
    have c0 := T1.cell 0
    have c1 := T1.cell 1
    have c2 := T1.cell 2
    simp at c0 c1 c2
    have tl := T1.lt
    obtain ⟨w2, hw2⟩ : ∃ w2, w1.alloc (.cells #[] 91) = w2 := ⟨_, rfl⟩
    have z1 : w1.heap.size = w.heap.size + 1 := by rw [← HW.out]; simp
    have O2 : w2.ownsRow w.heap.size 91 5 (.slice (some ⟨w.heap.size + 1, 0, none⟩) 0 0) 0 (lfC []) := by rw [← hw2, ← z1]; exact World.ownsRow_lit (e := 91) (size := 5) w1 #[] 0 B1.size (by decide) rfl
    have B12 : Below w1.heap.size w1 w2 := by rw [← hw2]; exact Ext.more (Ext.refl _) _
    have HW2 := Lib.hid hw2
    have QR := Lib.hid (quarters_any x y h S HS2.out w2 (by omega) (by omega) (by omega))
    have T2 := T1.under B12 T1.lt
    have c0 := T2.cell 0
    have c1 := T2.cell 1
    have c2 := T2.cell 2
    simp at c0 c1 c2
    have B2 := Ext.then_ B1 B12
    have D40 : Hid (t.data.toList.drop p = 40 :: t.data.toList.drop (p + 1)) := by rw [Hid, hD, h40]
    clear hw2 hl hD h40 T1 T2
    go_enter Tryd.func97, Tryd.ntmps97
    go_wp2_with fail
    try simp only [HW.out]
    try simp only [HW2.out]
    refine QR.out.mono ?_
    rintro e w3 ⟨gq, rfl, T3, hb3⟩
    have O3 := own_ext hb3 O2
    have B3 := Ext.then_ B2 hb3
    clear O2 c0 c1 c2 QR hb3 hv35 hv46 hv40 hS1
    go_wp2_with fail
    go_loopw [1, 10, 12, 13, 14, 15, 57] (fun qv ov _ _ _ _ kv wr => ∃ (k q m g c : Nat) (ks : List QT), k ≤ 4 ∧ q ≤ t.size ∧ kv = .int .i64 k ∧ qv = .int .i64 q ∧ ov = .slice (some ⟨g, 0, none⟩) m c ∧
      Hid (rdK true n (t.data.toList.drop (p + 1)) k = some (ks, t.data.toList.drop q) ∧ (kidL n x y a 0 ks).length = m) ∧ m ≤ k * 256 ∧
      wr.ownsRow w.heap.size 91 5 (.slice (some ⟨g, 0, none⟩) m c) m (lfC (kidL n x y a 0 ks)) ∧ Blk wr gq 89 (qtC x y h) ∧ Below w.heap.size w wr) (fun _ _ _ _ _ _ kv _ => 4 - (intOf kv).toNat)
    case atStart => exact ⟨0, p + 1, 0, _, _, [], Nat.zero_le _, by omega, rfl, by go_num, rfl, ⟨rfl, rfl⟩, Nat.zero_le _, O3, T3, B3⟩
    case round =>
      obtain ⟨k, q, m, g, c, ks, hk, hq, rfl, rfl, rfl, hI, hm, hown, T, hb⟩ := hrel
      clear O3 T3 B3
      have HOW := Lib.hid hown
      have gl := hown.lt g rfl
      have gql := T.lt
      have hz := hb.size
      clear hown
      by_cases hk4 : k < 4
      · obtain ⟨e0, e1, e2⟩ := qtC_at x y h k hk4
        have c0 := (T.cell (k * 3)).trans e0
        have c1 := (T.cell (k * 3 + 1)).trans e1
        have c2 := (T.cell (k * 3 + 2)).trans e2
        have CV := Lib.hid (dig_conv k hk4)
        have hX : qX x h k + h ≤ 100 := by
          have := HS2.out
          rcases (show k = 0 ∨ k = 1 ∨ k = 2 ∨ k = 3 by omega) with e | e | e | e <;> rw [e] <;> simp [qX] <;> omega
        have hY : qY y h k + h ≤ 100 := by
          have := HS2.out
          rcases (show k = 0 ∨ k = 1 ∨ k = 2 ∨ k = 3 by omega) with e | e | e | e <;> rw [e] <;> simp [qY] <;> omega
        obtain ⟨X, hXX⟩ : ∃ X, qX x h k = X := ⟨_, rfl⟩
        obtain ⟨Y, hYY⟩ : ∃ Y, qY y h k = Y := ⟨_, rfl⟩
        rw [hXX] at c0 hX
        rw [hYY] at c1 hY
        have t4 : (k : Int) < 4 := by omega
        have k0 : (0 : Int) ≤ (k : Int) := by omega
        clear e0 e1 e2
        have cv := fun V => CV.out V
        obtain ⟨D, hD⟩ : ∃ D, dig k = D := ⟨_, rfl⟩
        rw [hD] at cv
        have hDs : D.size = 1 := by rw [← hD]; rfl
        have t5 : ¬ 9223372036854775807 < a.size + D.size := by omega
        have haD : (a ++ D).size + n ≤ 100 := by rw [ByteArray.size_append]; omega
        have T4 : Blk (wr.alloc (.cells #[.int .i64 X, .int .i64 Y, .int .i64 h] 89)) gq 89 (qtC x y h) := T.more _
        have b4 : Below wr.heap.size wr (wr.alloc (.cells #[.int .i64 X, .int .i64 Y, .int .i64 h] 89)) := Ext.more (Ext.refl _) _
        have z4 : (wr.alloc (.cells #[.int .i64 X, .int .i64 Y, .int .i64 h] 89)).heap.size = wr.heap.size + 1 := by simp
        have HO4 := Lib.hid (own_ext b4 HOW.out)
        have B4 := Ext.then_ hb b4
        obtain ⟨w4, hw4⟩ : ∃ w4, wr.alloc (.cells #[.int .i64 X, .int .i64 Y, .int .i64 h] 89) = w4 := ⟨_, rfl⟩
        rw [hw4] at T4 b4 z4 HO4 B4
        have HW4 := Lib.hid hw4
        have RC := Lib.hid (IH.out q X Y (a ++ D) w4 (by omega) hX hY haD)
        have RK : Hid (rdK true n (t.data.toList.drop (p + 1)) (k + 1) = (rd true n (t.data.toList.drop q)).bind fun b => some (ks ++ [b.1], b.2)) := by
          rw [Hid, rdK, hI.out.1]; rfl
        have LK := Lib.hid (rdK_length hI.out.1)
        have LM := Lib.hid hI.out.2
        have HX2 : Hid (X = qX x h k ∧ Y = qY y h k ∧ D = dig k) := ⟨hXX.symm, hYY.symm, hD.symm⟩
        clear hw4 hXX hYY hD hI
        go_wp2_with fail
        try simp only [HW4.out]
        refine RC.out.mono ?_
        rintro e w5 ⟨hb5, hm5⟩
        have B5 := Ext.then_ B4 hb5
        have T5 := T4.under hb5 T4.lt
        have HO5 := Lib.hid (own_ext hb5 HO4.out)
        have z5 := hb5.size
        clear T4 c0 c1 c2 RC T
        cases hrd : rd true n (t.data.toList.drop q) with
        | none =>
          rw [hrd] at hm5
          subst hm5
          have F : Hid (rd true (n + 1) (t.data.toList.drop p) = none) := by
            have h1 : rdK true n (t.data.toList.drop (p + 1)) (k + 1) = none := by rw [RK.out, hrd]; rfl
            have h2 := rdK_none h1 (4 - (k + 1))
            rw [show k + 1 + (4 - (k + 1)) = 4 by omega] at h2
            rw [Hid, FK.out, h2]; rfl
          clear hrd RK
          go_wp2_with fail
          go_ret2
          exact RsRes.no B5 F.out
        | some z =>
          obtain ⟨U, r⟩ := z
          rw [hrd] at hm5
          simp only at hm5
          obtain ⟨g6, c6, rfl, ho6⟩ := hm5
          obtain ⟨x1, x2, x3⟩ := rd_some n _ U r hrd
          have hfit := lf_len n U x2 X Y (a ++ D)
          have h256 : 4 ^ n ≤ 256 := Nat.le_trans (Nat.pow_le_pow_right (by decide) (show n ≤ 4 by omega)) (by decide)
          have hrl : r.length ≤ t.size - q := by
            have := congrArg List.length x1
            rw [List.length_drop, List.length_append, HLN.out] at this; omega
          obtain ⟨q2, hq2⟩ : ∃ q2, t.size - r.length = q2 := ⟨_, rfl⟩
          have DR : Hid (t.data.toList.drop q2 = r) := by
            have h1 : t.data.toList.drop q2 = (t.data.toList.drop q).drop (q2 - q) := by rw [List.drop_drop, show q + (q2 - q) = q2 by omega]
            have h2 : q2 - q = U.txt.length := by
              have := congrArg List.length x1
              rw [List.length_drop, List.length_append, HLN.out] at this; omega
            rw [Hid, h1, x1, h2, List.drop_left]
          have hq2s : q2 ≤ t.size := by omega
          have RK2 : Hid (rdK true n (t.data.toList.drop (p + 1)) (k + 1) = some (ks ++ [U], t.data.toList.drop q2)) := by
            rw [Hid, RK.out, hrd, DR.out]; rfl
          obtain ⟨M, hM⟩ : ∃ M, (U.lf n X Y (a ++ D)).length = M := ⟨_, rfl⟩
          have KS : Hid (kidL n x y a 0 (ks ++ [U]) = kidL n x y a 0 ks ++ U.lf n X Y (a ++ D)) := by
            rw [Hid, kidL_snoc, LK.out, Nat.zero_add, HH.out, HX2.out.1, HX2.out.2.1, HX2.out.2.2]
          have KL : Hid ((kidL n x y a 0 (ks ++ [U])).length = m + M) := by rw [Hid, KS.out, List.length_append, LM.out, hM]
          rw [hM] at ho6 hfit ⊢
          have hln : (lfC (U.lf n X Y (a ++ D))).length = M * 5 := by rw [lfC_len, hM, Nat.mul_comm]
          rw [hq2]
          have HO6 := Lib.hid ho6
          have HLE := Lib.hid hln
          have ne5 := own_blk_ne HO5.out T5 (by decide)
          clear hrd RK x1 x2 x3 hq2 hM ho6 hln hrl
          go_wp2_with (at_builtin; refine wpList_appT leafT (by rfl) _ _ (by rfl) w.heap.size (.slice (some ⟨g, 0, none⟩) m c) m (lfC (kidL n x y a 0 ks)) (by rfl) HO5.out g6 M c6 (lfC (U.lf n X Y (a ++ D))) (by rfl) HLE.out (HO6.out.cells (g := g6) rfl) (lfC_one _) (by omega) (by omega) (by simp) ?_; intro g7 c7 w7 own7 hg7; have B7 : Below w.heap.size w w7 := B5.grown hg7 (by omega) (fun z hz => by simp [Value.ownBlock] at hz; omega); have T7 := T5.by_grown hg7 (fun e => ne5 e.symm); have HO7 := Lib.hid (own_lf own7 (Nat.le_refl _) (ys := lfC (kidL n x y a 0 (ks ++ [U]))) (by rw [KS.out, lfC_app]) rfl); clear own7 hg7)
          go_wp2_with fail
          go_roundw
          case rel => exact ⟨k + 1, q2, m + M, g7, c7, ks ++ [U], by omega, hq2s, by go_num, rfl, rfl, ⟨RK2.out, KL.out⟩, by omega, HO7.out, T7, B7⟩
          case measure => simp [intOf]; omega
      · obtain rfl : k = 4 := by omega
        have hl4 := rdK_length hI.out.1
        obtain ⟨a1, a2, a3, a4, hks⟩ : ∃ a1 a2 a3 a4, ks = [a1, a2, a3, a4] := by
          match ks, hl4 with
          | [a1, a2, a3, a4], _ => exact ⟨a1, a2, a3, a4, rfl⟩
        subst hks
        have RE : Hid (rd true (n + 1) (t.data.toList.drop p) = rdE true a1 a2 a3 a4 (t.data.toList.drop q)) := by rw [Hid, FK.out, hI.out.1]; rfl
        have LM : Hid ((QT.lf (n + 1) (.node a1 a2 a3 a4) x y a).length = m) := by rw [Hid, ← kidL_four]; exact hI.out.2
        have LK4 : Hid (QT.lf (n + 1) (.node a1 a2 a3 a4) x y a = kidL n x y a 0 [a1, a2, a3, a4]) := (kidL_four n x y a a1 a2 a3 a4).symm
        have hpq : p < q := by
          have := rdK_txt hI.out.1
          have h2 := congrArg List.length this
          rw [List.length_append, List.length_drop, List.length_drop, HLN.out] at h2
          omega
        have WB : Hid ((t.extract p q).data.toList = 40 :: (a1.txt ++ (a2.txt ++ (a3.txt ++ a4.txt)))) := by
          have h1 := rdK_txt hI.out.1
          have h2 : (t.extract p q).data.toList = (t.data.toList.drop p).take (q - p) := by
            rw [← ByteArray.toList_eq]; exact Lib.extract_toList t p q
          rw [Hid, h2, D40.out, h1]
          have h3 : q - p = (40 :: ([a1, a2, a3, a4].map QT.txt).flatten).length := by
            have h4 := congrArg List.length h1
            rw [List.length_append, List.length_drop, List.length_drop, HLN.out] at h4
            rw [List.length_cons]; omega
          rw [← List.cons_append, h3, List.take_left]
          simp
        have qm : min (q : Int) (t.size : Int) = (q : Int) := by omega
        have q5 : (p : Int) ≤ (q : Int) := by omega
        have q6 : (q : Int) ≤ (t.size : Int) := by omega
        obtain ⟨E, hE⟩ : ∃ E, t.extract p q = E := ⟨_, rfl⟩
        rw [hE] at WB
        clear hI hl4
        by_cases hqs : q < t.size
        case neg =>
          have F : Hid (rd true (n + 1) (t.data.toList.drop p) = none) := by rw [Hid, RE.out, List.drop_of_length_le (by rw [HLN.out]; omega)]; rfl
          have q7 : ¬ (q : Int) < (t.size : Int) := by omega
          go_wp2_with fail
          go_ret2
          exact RsRes.no hb F.out
        have q7 : (q : Int) < (t.size : Int) := by omega
        have q8 : (0 : Int) ≤ (q : Int) := by omega
        have hDq : t.data.toList.drop q = t[q] :: t.data.toList.drop (q + 1) := List.drop_eq_getElem_cons (by rw [HLN.out]; exact hqs)
        by_cases h41 : t[q] = 41
        case neg =>
          have F : Hid (rd true (n + 1) (t.data.toList.drop p) = none) := by rw [Hid, RE.out, hDq, rdE, if_neg (fun h => h41 h.1)]
          have hv41 : (((t[q].toNat : Nat) : Int) != 41) = true := by
            rw [bne_iff_ne]; intro e; exact h41 (UInt8.toNat_inj.1 (by rw [show (41 : UInt8).toNat = 41 from rfl]; omega))
          clear hDq h41
          go_wp2_with fail
          go_ret2
          exact RsRes.no hb F.out
        have hv41 : ((t[q].toNat : Nat) : Int) = 41 := by rw [h41]; rfl
        have RE2 : Hid (rd true (n + 1) (t.data.toList.drop p) = if mono a1 a2 a3 a4 = false then some (.node a1 a2 a3 a4, t.data.toList.drop (q + 1)) else none) := by
          rw [Hid, RE.out, hDq, h41, rdE]; simp
        have MT := mono_txt a1 a2 a3 a4
        rw [← WB.out, ← ByteArray.toList_eq] at MT
        have LQ : Hid (t.size - (t.data.toList.drop (q + 1)).length = q + 1) := by rw [Hid, List.length_drop]; have := HLN.out; omega
        clear hDq h41 WB RE
        cases hE1 : (E.toList == [40, 35, 35, 35, 35])
        · cases hE2 : (E.toList == [40, 46, 46, 46, 46])
          · rw [hE1, hE2] at MT
            have F : Hid (rd true (n + 1) (t.data.toList.drop p) = some (.node a1 a2 a3 a4, t.data.toList.drop (q + 1))) := by rw [Hid, RE2.out, ← MT]; rfl
            clear MT
            go_wp2_with fail
            go_ret2
            exact RsRes.yes (q := q + 1) hb F.out rfl LM.out LQ.out (own_lf HOW.out (Nat.le_refl _) (by rw [LK4.out]) rfl)
          · rw [hE1, hE2] at MT
            have F : Hid (rd true (n + 1) (t.data.toList.drop p) = none) := by rw [Hid, RE2.out, ← MT]; rfl
            clear MT
            go_wp2_with fail
            go_ret2
            exact RsRes.no hb F.out
        · rw [hE1, Bool.true_or] at MT
          have F : Hid (rd true (n + 1) (t.data.toList.drop p) = none) := by rw [Hid, RE2.out, ← MT]; rfl
          clear MT
          go_wp2_with fail
          go_ret2
          exact RsRes.no hb F.out
end Go.Proofs.YtogefmkplkddoaaDoor
