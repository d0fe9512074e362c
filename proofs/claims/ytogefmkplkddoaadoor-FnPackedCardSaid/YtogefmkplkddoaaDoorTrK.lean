/- Trees of squares: the program's codes of trees. -/
import Derived.Test.YtogefmkplkddoaaDoorTrJ
namespace Go.Proofs.YtogefmkplkddoaaDoor
open Go.RowKit

/-- What is still to be written of a text and its leaves. -/
def pkL : List UInt8 → List Lf → List UInt8
  | [], _ => []
  | c :: r, L => if c = 40 then 49 :: pkL r L else if c = 41 then pkL r L else match L with
    | [] => []
    | l :: L' => (if 1 < l.s then [48] else []) ++ bit1 l.b :: pkL r L'
def plain (c : UInt8) : Bool := c != 40 && c != 41
theorem pkL_nil (L : List Lf) : pkL [] L = [] := by rw [pkL]
theorem pkL_open (r : List UInt8) (L : List Lf) : pkL (40 :: r) L = 49 :: pkL r L := by cases L <;> simp [pkL]
theorem pkL_shut (r : List UInt8) (L : List Lf) : pkL (41 :: r) L = pkL r L := by cases L <;> simp [pkL]
theorem pkL_leaf {c : UInt8} (h1 : c ≠ 40) (h2 : c ≠ 41) (r : List UInt8) (l : Lf) (L : List Lf) : pkL (c :: r) (l :: L) = (if 1 < l.s then [48] else []) ++ bit1 l.b :: pkL r L := by
  rw [pkL, if_neg h1, if_neg h2]
theorem pow_big (n : Nat) : 1 < 2 ^ (n + 1) := by
  have : 0 < 2 ^ n := Nat.pow_pos (by decide)
  rw [Nat.pow_succ]; omega
theorem pkL_txt : ∀ (n : Nat) (T : QT), T.fits n = true → ∀ x y a (r : List UInt8) (L : List Lf), pkL (T.txt ++ r) (T.lf n x y a ++ L) = T.pk n ++ pkL r L
  | n, .leaf b, _, x, y, a, r, L => by
    have h1 : clr b ≠ 40 := by cases b <;> decide
    have h2 : clr b ≠ 41 := by cases b <;> decide
    have e : pkL (QT.txt (.leaf b) ++ r) (QT.lf n (.leaf b) x y a ++ L) = pkL (clr b :: r) (⟨x, y, 2 ^ n, b, a⟩ :: L) := by cases n <;> rfl
    rw [e, pkL_leaf h1 h2]
    cases n with
    | zero => simp [QT.pk]
    | succ n => simp [QT.pk, pow_big n]
  | 0, .node .., h, _, _, _, _, _ => by cases h
  | n + 1, .node p q r s, h, x, y, a, t, L => by
    simp only [QT.fits, Bool.and_eq_true] at h
    have e1 : QT.txt (.node p q r s) ++ t = 40 :: (p.txt ++ (q.txt ++ (r.txt ++ (s.txt ++ (41 :: t))))) := by simp [QT.txt]
    rw [e1, pkL_open, QT.lf, List.append_assoc, pkL_txt n p h.1, List.append_assoc, pkL_txt n q h.2.1, List.append_assoc, pkL_txt n r h.2.2.1, pkL_txt n s h.2.2.2, pkL_shut]
    simp [QT.pk]
theorem plain_txt : ∀ (n : Nat) (T : QT), T.fits n = true → ∀ x y a, T.txt.countP plain = (T.lf n x y a).length
  | n, .leaf b, _, x, y, a => by cases n <;> cases b <;> rfl
  | 0, .node .., h, _, _, _ => by cases h
  | n + 1, .node p q r s, h, x, y, a => by
    simp only [QT.fits, Bool.and_eq_true] at h
    have h1 := plain_txt n p h.1 x y (a ++ dig 0)
    have h2 := plain_txt n q h.2.1 (x + 2 ^ n) y (a ++ dig 1)
    have h3 := plain_txt n r h.2.2.1 x (y + 2 ^ n) (a ++ dig 2)
    have h4 := plain_txt n s h.2.2.2 (x + 2 ^ n) (y + 2 ^ n) (a ++ dig 3)
    have e1 : List.countP plain [41] = 0 := rfl
    have e2 : plain 40 = false := rfl
    simp only [QT.txt, QT.lf, List.length_append, List.countP_append, List.countP_cons, e1, e2, h1, h2, h3, h4]
    simp
theorem own_byT {w : World} {base base' g n cap : Nat} {xs : List Value} (h : w.ownsRow base 5 1 (.slice (some ⟨g, 0, none⟩) n cap) n xs) (hb : base' ≤ base) {ys : List Value} {m : Nat} (hx : xs = ys) (hn : n = m) : w.ownsRow base' 5 1 (.slice (some ⟨g, 0, none⟩) m cap) m ys := by
  subst hx hn; exact own_base h hb
set_option maxRecDepth 100000 in
set_option maxHeartbeats 2000000 in
theorem packTree_any (s : Int) (t : ByteArray) (L : List Lf) (g c : Nat) (w : World) (ht : t.size ≤ 1048576) (hL : L.length ≤ 1000000) (hg : g < w.heap.size) (hc : ∀ j u, (lfC L)[j]? = some u → w.cell? ⟨g, j, none⟩ = some u)
    (hcount : t.data.toList.countP plain = L.length) :
    Calls Tryd.prog 64 #[.agg #[.int .i64 s, .string t], .slice (some ⟨g, 0, none⟩) L.length c] w fun e w' => e = .returned (.string ⟨(pkL t.data.toList L).toArray⟩) ∧ Below w.heap.size w w' := by
  obtain ⟨w1, hw1⟩ : ∃ w1, w.alloc (.cells #[.int .i64 s, .string t] 45) = w1 := ⟨_, rfl⟩
  have T1 : Blk w1 w.heap.size 45 #[.int .i64 s, .string t] := by rw [← hw1]; exact Blk.made _ _ _
  have B1 : Below w.heap.size w w1 := by rw [← hw1]; exact Ext.more (Ext.refl _) _
  have z1 : w1.heap.size = w.heap.size + 1 := by rw [← hw1]; simp
  obtain ⟨w2, hw2⟩ : ∃ w2, w1.alloc (.cells #[] 5) = w2 := ⟨_, rfl⟩
  have O2 : w2.ownsRow (w.heap.size + 1) 5 1 (.slice (some ⟨w.heap.size + 1, 0, none⟩) 0 0) 0 (u8s []) := by rw [← hw2, ← z1]; exact World.ownsRow_lit (e := 5) (size := 1) w1 #[] 0 (Nat.le_refl _) (by decide) rfl
  have B12 : Below w1.heap.size w1 w2 := by rw [← hw2]; exact Ext.more (Ext.refl _) _
  have HW1 := Lib.hid hw1
  have HW2 := Lib.hid hw2
  have T2 := T1.under B12 T1.lt
  have c0 := T1.cell 1
  simp at c0
  have c1 := T2.cell 1
  simp at c1
  have HLN : Hid (t.data.toList.length = t.size) := rfl
  have CE : Hid (∀ V, Below (w.heap.size + 1) w2 V → ∀ k (hk : k < L.length), V.cell? ⟨g, k * 5 + 2, none⟩ = some (.int .i64 (L[k]).s) ∧ V.cell? ⟨g, k * 5 + 3, none⟩ = some (.bool (L[k]).b)) := fun V hV k hk => by
    have key : ∀ j u, (lfC L)[j]? = some u → V.cell? ⟨g, j, none⟩ = some u := fun j u hu => by
      refine (hV.cell (p := ⟨g, j, none⟩) (show g < w.heap.size + 1 by omega)).trans ?_
      refine (B12.cell (p := ⟨g, j, none⟩) (show g < w1.heap.size by omega)).trans ?_
      exact (B1.cell (p := ⟨g, j, none⟩) hg).trans (hc j u hu)
    exact ⟨key _ _ (by rw [lfC_at L k hk 2 (by omega)]; rfl), key _ _ (by rw [lfC_at L k hk 3 (by omega)]; rfl)⟩
  have CT : Hid (∀ V, Below (w.heap.size + 1) w2 V → V.cell? ⟨w.heap.size, 1, none⟩ = some (.string t)) := fun V hV => (hV.cell (p := ⟨w.heap.size, 1, none⟩) (Nat.lt_succ_self _)).trans c1
  have B2 := Ext.then_ B1 B12
  have HC := Lib.hid hcount
  obtain ⟨N, hN⟩ : ∃ N, L.length = N := ⟨_, rfl⟩
  have HN := Lib.hid hN
  rw [hN] at hL ⊢
  clear hw1 hw2 hc hcount T1 T2 B1 c1 hN
  go_enter Tryd.func64, Tryd.ntmps64
  go_wp2_with fail
  try simp only [HW1.out]
  go_wp2_with fail
  try simp only [HW2.out]
  go_loopw [5, 6, 7, 12] (fun ov kv _ iv wr => ∃ (i k m g5 c5 : Nat) (o : List UInt8), i ≤ t.size ∧ iv = .int .i64 i ∧ kv = .int .i64 k ∧ ov = .slice (some ⟨g5, 0, none⟩) m c5 ∧
    Hid (pkL t.data.toList L = o ++ pkL (t.data.toList.drop i) (L.drop k) ∧ (t.data.toList.drop i).countP plain = (L.drop k).length ∧ o.length = m) ∧ m ≤ 2 * i ∧
    wr.ownsRow (w.heap.size + 1) 5 1 (.slice (some ⟨g5, 0, none⟩) m c5) m (u8s o) ∧ Below (w.heap.size + 1) w2 wr) (fun _ _ _ iv _ => t.size - (intOf iv).toNat)
  case atStart => exact ⟨0, 0, 0, _, _, [], Nat.zero_le _, rfl, rfl, rfl, ⟨by simp, by simpa using HC.out, rfl⟩, Nat.le_refl _, O2, Below.refl _ _⟩
  case round =>
    obtain ⟨i, k, m, g5, c5, o, hi, rfl, rfl, rfl, hI, hm, hown, hb⟩ := hrel
    clear O2
    have HOW := Lib.hid hown
    have gl5 := hown.lt g5 rfl
    have hz := hb.size
    have hz2 := B2.size
    clear hown
    by_cases hlt : i < t.size
    · have ci := CT.out wr hb
      have hD : t.data.toList.drop i = t[i] :: t.data.toList.drop (i + 1) := List.drop_eq_getElem_cons (by rw [HLN.out]; exact hlt)
      have i0 : (0 : Int) ≤ (i : Int) := by omega
      have i1 : (i : Int) < (t.size : Int) := by omega
      by_cases h40 : t[i] = 40
      · have NX : Hid (pkL t.data.toList L = (o ++ [49]) ++ pkL (t.data.toList.drop (i + 1)) (L.drop k) ∧ (t.data.toList.drop (i + 1)).countP plain = (L.drop k).length ∧ (o ++ [49]).length = m + 1) := by
          refine ⟨?_, ?_, by rw [List.length_append, hI.out.2.2]; rfl⟩
          · rw [hI.out.1, hD, h40, pkL_open]; simp
          · rw [← hI.out.2.1, hD, h40]; rfl
        have hv : ((t[i].toNat : Nat) : Int) = 40 := by rw [h40]; rfl
        clear hD h40 hI
        go_wp2_with (at_builtin; refine wpList_app byteT (by rfl) _ _ (by rfl) (w.heap.size + 1) (.slice (some ⟨g5, 0, none⟩) m c5) m (u8s o) (by rfl) (HOW.out.alloc _) wr.heap.size #[.int .u8 49] (by rfl) (heap_alloc_new _ _) rfl (by simp [Value.oneCell']) (by omega) (by simp; omega) ?_; intro g6 c6 w5 own5 hg5 hat5 hlt5; have B5 : Below (w.heap.size + 1) w2 w5 := (hb.alloc (by omega) _).grown hg5 (by simp; omega) (fun z hz => by simp [Value.ownBlock] at hz; omega); have HO := Lib.hid (own_byT own5 (Nat.le_refl _) (ys := u8s (o ++ [49])) (by simp [u8s]) rfl); clear own5 hg5 hat5 hlt5)
        go_wp2_with fail
        go_roundw
        case rel => exact ⟨i + 1, k, m + 1, g6, c6, o ++ [49], by omega, by go_num, rfl, rfl, NX.out, by omega, HO.out, B5⟩
        case measure => simp [intOf]; omega
      have hv40 : (((t[i].toNat : Nat) : Int) == 40) = false := by
        rw [beq_eq_false_iff_ne]; intro e; exact h40 (UInt8.toNat_inj.1 (by rw [show (40 : UInt8).toNat = 40 from rfl]; omega))
      by_cases h41 : t[i] = 41
      · have NX : Hid (pkL t.data.toList L = o ++ pkL (t.data.toList.drop (i + 1)) (L.drop k) ∧ (t.data.toList.drop (i + 1)).countP plain = (L.drop k).length ∧ o.length = m) := by
          refine ⟨?_, ?_, hI.out.2.2⟩
          · rw [hI.out.1, hD, h41, pkL_shut]
          · rw [← hI.out.2.1, hD, h41]; rfl
        have hv : ((t[i].toNat : Nat) : Int) = 41 := by rw [h41]; rfl
        clear hD h41 h40 hI hv40
        go_wp2_with fail
        go_roundw
        case rel => exact ⟨i + 1, k, m, g5, c5, o, by omega, by go_num, rfl, rfl, NX.out, by omega, HOW.out, hb⟩
        case measure => simp [intOf]; omega
      have hv41 : (((t[i].toNat : Nat) : Int) == 41) = false := by
        rw [beq_eq_false_iff_ne]; intro e; exact h41 (UInt8.toNat_inj.1 (by rw [show (41 : UInt8).toNat = 41 from rfl]; omega))
      have hpl : plain t[i] = true := by simp [plain, h40, h41]
      have hkL : k < L.length := by
        have h1 := hI.out.2.1
        rw [hD, List.countP_cons, hpl, List.length_drop] at h1
        simp at h1; omega
      have hkN : k < N := by have := HN.out; omega
      obtain ⟨c2, c3⟩ := CE.out wr hb k hkL
      have hLd : L.drop k = L[k] :: L.drop (k + 1) := List.drop_eq_getElem_cons hkL
      have NX0 : Hid (pkL t.data.toList L = (o ++ ((if 1 < (L[k]).s then [48] else []) ++ [bit1 (L[k]).b])) ++ pkL (t.data.toList.drop (i + 1)) (L.drop (k + 1)) ∧ (t.data.toList.drop (i + 1)).countP plain = (L.drop (k + 1)).length) := by
        refine ⟨?_, ?_⟩
        · rw [hI.out.1, hD, hLd, pkL_leaf h40 h41]; simp
        · have h1 := hI.out.2.1
          rw [hD, hLd, List.countP_cons, hpl, List.length_cons] at h1
          simpa using h1
      have OL := Lib.hid hI.out.2.2
      obtain ⟨S, hS⟩ : ∃ S, (L[k]).s = S := ⟨_, rfl⟩
      obtain ⟨β, hβ⟩ : ∃ β, (L[k]).b = β := ⟨_, rfl⟩
      rw [hS] at c2 NX0
      rw [hβ] at c3 NX0
      have HBE := Lib.hid hβ
      have k0 : (0 : Int) ≤ (k : Int) := by omega
      have k1 : (k : Int) < (N : Int) := by omega
      clear hD h40 h41 hI hpl hLd hS hβ
      have OF := Lib.hid (oneIfT_any β)
      cases β
      · by_cases hbig : 1 < S
        · have q1 : (1 : Int) < (S : Int) := by omega
          rw [if_pos hbig] at NX0
          have NX : Hid (pkL t.data.toList L = ((o ++ [48]) ++ [48]) ++ pkL (t.data.toList.drop (i + 1)) (L.drop (k + 1)) ∧ (t.data.toList.drop (i + 1)).countP plain = (L.drop (k + 1)).length ∧ ((o ++ [48]) ++ [48]).length = m + 1 + 1) := by
            refine ⟨by rw [NX0.out.1]; simp [bit1], NX0.out.2, by rw [List.length_append, List.length_append, OL.out]; rfl⟩
          clear NX0
          go_wp2_with (at_builtin; refine wpList_app byteT (by rfl) _ _ (by rfl) (w.heap.size + 1) (.slice (some ⟨g5, 0, none⟩) m c5) m (u8s o) (by rfl) (HOW.out.alloc _) wr.heap.size #[.int .u8 48] (by rfl) (heap_alloc_new _ _) rfl (by simp [Value.oneCell']) (by omega) (by simp; omega) ?_; intro g6 c6 w5 own5 hg5 hat5 hlt5; have B5 : Below (w.heap.size + 1) w2 w5 := (hb.alloc (by omega) _).grown hg5 (by simp; omega) (fun z hz => by simp [Value.ownBlock] at hz; omega); have HO5 := Lib.hid (own_byT own5 (Nat.le_refl _) (ys := u8s (o ++ [48])) (by simp [u8s]) rfl); have gl6 := HO5.out.lt g6 rfl; have hz5 := B5.size; obtain ⟨c25, c35⟩ := CE.out w5 B5 k hkL; rw [HBE.out] at c35; clear own5 hg5 hat5 hlt5)
          go_wp2_with fail
          refine (OF.out _).mono ?_
          rintro e w' ⟨rfl, rfl⟩
          go_wp2_with (at_builtin; refine wpList_app byteT (by rfl) _ _ (by rfl) (w.heap.size + 1) (.slice (some ⟨g6, 0, none⟩) (m + 1) c6) (m + 1) (u8s (o ++ [48])) (by rfl) (HO5.out.alloc _) w5.heap.size _ (by rfl) (heap_alloc_new _ _) rfl (by simp [Value.oneCell']) (by omega) (by simp; omega) ?_; intro g7 c7 w7 own5 hg5 hat5 hlt5; have B7 : Below (w.heap.size + 1) w2 w7 := (B5.alloc (by omega) _).grown hg5 (by simp; omega) (fun z hz => by simp [Value.ownBlock] at hz; omega); have HO7 := Lib.hid (own_byT own5 (Nat.le_refl _) (ys := u8s ((o ++ [48]) ++ [48])) (by first | (simp [u8s]; done) | (simp [u8s]; rfl)) rfl); clear own5 hg5 hat5 hlt5)
          go_wp2_with fail
          go_roundw
          case rel => exact ⟨i + 1, k + 1, m + 1 + 1, g7, c7, (o ++ [48]) ++ [48], by omega, by go_num, by go_num, rfl, NX.out, by omega, HO7.out, B7⟩
          case measure => simp [intOf]; omega
        · have q1 : ¬ (1 : Int) < (S : Int) := by omega
          rw [if_neg hbig] at NX0
          have NX : Hid (pkL t.data.toList L = (o ++ [48]) ++ pkL (t.data.toList.drop (i + 1)) (L.drop (k + 1)) ∧ (t.data.toList.drop (i + 1)).countP plain = (L.drop (k + 1)).length ∧ (o ++ [48]).length = m + 1) := by
            refine ⟨by rw [NX0.out.1]; simp [bit1], NX0.out.2, by rw [List.length_append, OL.out]; rfl⟩
          clear NX0
          go_wp2_with fail
          refine (OF.out _).mono ?_
          rintro e w' ⟨rfl, rfl⟩
          go_wp2_with (at_builtin; refine wpList_app byteT (by rfl) _ _ (by rfl) (w.heap.size + 1) (.slice (some ⟨g5, 0, none⟩) m c5) m (u8s o) (by rfl) (HOW.out.alloc _) wr.heap.size _ (by rfl) (heap_alloc_new _ _) rfl (by simp [Value.oneCell']) (by omega) (by simp; omega) ?_; intro g7 c7 w7 own5 hg5 hat5 hlt5; have B7 : Below (w.heap.size + 1) w2 w7 := (hb.alloc (by omega) _).grown hg5 (by simp; omega) (fun z hz => by simp [Value.ownBlock] at hz; omega); have HO7 := Lib.hid (own_byT own5 (Nat.le_refl _) (ys := u8s (o ++ [48])) (by first | (simp [u8s]; done) | (simp [u8s]; rfl)) rfl); clear own5 hg5 hat5 hlt5)
          go_wp2_with fail
          go_roundw
          case rel => exact ⟨i + 1, k + 1, m + 1, g7, c7, o ++ [48], by omega, by go_num, by go_num, rfl, NX.out, by omega, HO7.out, B7⟩
          case measure => simp [intOf]; omega
      · by_cases hbig : 1 < S
        · have q1 : (1 : Int) < (S : Int) := by omega
          rw [if_pos hbig] at NX0
          have NX : Hid (pkL t.data.toList L = ((o ++ [48]) ++ [49]) ++ pkL (t.data.toList.drop (i + 1)) (L.drop (k + 1)) ∧ (t.data.toList.drop (i + 1)).countP plain = (L.drop (k + 1)).length ∧ ((o ++ [48]) ++ [49]).length = m + 1 + 1) := by
            refine ⟨by rw [NX0.out.1]; simp [bit1], NX0.out.2, by rw [List.length_append, List.length_append, OL.out]; rfl⟩
          clear NX0
          go_wp2_with (at_builtin; refine wpList_app byteT (by rfl) _ _ (by rfl) (w.heap.size + 1) (.slice (some ⟨g5, 0, none⟩) m c5) m (u8s o) (by rfl) (HOW.out.alloc _) wr.heap.size #[.int .u8 48] (by rfl) (heap_alloc_new _ _) rfl (by simp [Value.oneCell']) (by omega) (by simp; omega) ?_; intro g6 c6 w5 own5 hg5 hat5 hlt5; have B5 : Below (w.heap.size + 1) w2 w5 := (hb.alloc (by omega) _).grown hg5 (by simp; omega) (fun z hz => by simp [Value.ownBlock] at hz; omega); have HO5 := Lib.hid (own_byT own5 (Nat.le_refl _) (ys := u8s (o ++ [48])) (by simp [u8s]) rfl); have gl6 := HO5.out.lt g6 rfl; have hz5 := B5.size; obtain ⟨c25, c35⟩ := CE.out w5 B5 k hkL; rw [HBE.out] at c35; clear own5 hg5 hat5 hlt5)
          go_wp2_with fail
          refine (OF.out _).mono ?_
          rintro e w' ⟨rfl, rfl⟩
          go_wp2_with (at_builtin; refine wpList_app byteT (by rfl) _ _ (by rfl) (w.heap.size + 1) (.slice (some ⟨g6, 0, none⟩) (m + 1) c6) (m + 1) (u8s (o ++ [48])) (by rfl) (HO5.out.alloc _) w5.heap.size _ (by rfl) (heap_alloc_new _ _) rfl (by simp [Value.oneCell']) (by omega) (by simp; omega) ?_; intro g7 c7 w7 own5 hg5 hat5 hlt5; have B7 : Below (w.heap.size + 1) w2 w7 := (B5.alloc (by omega) _).grown hg5 (by simp; omega) (fun z hz => by simp [Value.ownBlock] at hz; omega); have HO7 := Lib.hid (own_byT own5 (Nat.le_refl _) (ys := u8s ((o ++ [48]) ++ [49])) (by first | (simp [u8s]; done) | (simp [u8s]; rfl)) rfl); clear own5 hg5 hat5 hlt5)
          go_wp2_with fail
          go_roundw
          case rel => exact ⟨i + 1, k + 1, m + 1 + 1, g7, c7, (o ++ [48]) ++ [49], by omega, by go_num, by go_num, rfl, NX.out, by omega, HO7.out, B7⟩
          case measure => simp [intOf]; omega
        · have q1 : ¬ (1 : Int) < (S : Int) := by omega
          rw [if_neg hbig] at NX0
          have NX : Hid (pkL t.data.toList L = (o ++ [49]) ++ pkL (t.data.toList.drop (i + 1)) (L.drop (k + 1)) ∧ (t.data.toList.drop (i + 1)).countP plain = (L.drop (k + 1)).length ∧ (o ++ [49]).length = m + 1) := by
            refine ⟨by rw [NX0.out.1]; simp [bit1], NX0.out.2, by rw [List.length_append, OL.out]; rfl⟩
          clear NX0
          go_wp2_with fail
          refine (OF.out _).mono ?_
          rintro e w' ⟨rfl, rfl⟩
          go_wp2_with (at_builtin; refine wpList_app byteT (by rfl) _ _ (by rfl) (w.heap.size + 1) (.slice (some ⟨g5, 0, none⟩) m c5) m (u8s o) (by rfl) (HOW.out.alloc _) wr.heap.size _ (by rfl) (heap_alloc_new _ _) rfl (by simp [Value.oneCell']) (by omega) (by simp; omega) ?_; intro g7 c7 w7 own5 hg5 hat5 hlt5; have B7 : Below (w.heap.size + 1) w2 w7 := (hb.alloc (by omega) _).grown hg5 (by simp; omega) (fun z hz => by simp [Value.ownBlock] at hz; omega); have HO7 := Lib.hid (own_byT own5 (Nat.le_refl _) (ys := u8s (o ++ [49])) (by first | (simp [u8s]; done) | (simp [u8s]; rfl)) rfl); clear own5 hg5 hat5 hlt5)
          go_wp2_with fail
          go_roundw
          case rel => exact ⟨i + 1, k + 1, m + 1, g7, c7, o ++ [49], by omega, by go_num, by go_num, rfl, NX.out, by omega, HO7.out, B7⟩
          case measure => simp [intOf]; omega
    · have ie : i = t.size := by omega
      have FN : Hid (pkL t.data.toList L = o) := by
        rw [Hid, hI.out.1, List.drop_of_length_le (by rw [HLN.out]; omega), pkL_nil, List.append_nil]
      have hcv := str_of_own HOW.out hI.out.2.2
      have q1 : ¬ (i : Int) < (t.size : Int) := by omega
      have BF : Below w.heap.size w wr := B2.trans (hb.mono (by omega))
      clear hI ie
      go_wp2_with fail
      go_ret
      exact ⟨by rw [FN.out]; rfl, BF⟩
end Go.Proofs.YtogefmkplkddoaaDoor
