/- Parts of an image: the search finds them; the function values of the visit. -/
import Derived.Test.YtdhajndmebnknaaGreatTopS
import Derived.Test.YtdhajndmebnknaaGreatLab
import Derived.Test.YtdhajndmebnknaaGreatAr8
import Derived.Deep.CutRange
import Derived.Deep.DeepCutAuto
namespace Go.Proofs.YtdhajndmebnknaaGreat
open Go.RowKit

/-- The picture of an image. -/
def pcI (L : List Bool) (W H : Nat) : Pc := ⟨W, H, fun p => bit L W H p.1 p.2⟩
/-- The pixels of one colour. -/
def okC (L : List Bool) (W H : Nat) (c : Bool) (z : Int × Int) : Bool := hasB W H z.1 z.2 && (bit L W H z.1 z.2 == c)
def nbC (c : Bool) : Int × Int → List (Int × Int) := if c then nb8 else nbF
theorem has_iff {L : List Bool} {W H : Nat} {z : Int × Int} : (pcI L W H).has z ↔ hasB W H z.1 z.2 = true := by
  rw [hasB_iff]; rfl
theorem okC_iff {L : List Bool} {W H : Nat} {c : Bool} {z : Int × Int} : okC L W H c z = true ↔ (pcI L W H).has z ∧ (pcI L W H).col z = c := by
  rw [okC, Bool.and_eq_true, has_iff, beq_iff_eq]; rfl
theorem okB_C (L : List Bool) {W H : Nat} (c : Bool) (hW : W ≤ 20) (hH : H ≤ 20) : OkB (okC L W H c) (W * H) where
  pos := by
    have K : ∀ z, okC L W H c z = true → ∃ x y : Nat, z = ((x : Int), (y : Int)) ∧ x < W ∧ y < H := fun z hz => by
      obtain ⟨⟨h1, h2⟩, h3, h4⟩ := (okC_iff.1 hz).1
      obtain ⟨x, hx⟩ := Int.eq_ofNat_of_zero_le h1
      obtain ⟨y, hy⟩ := Int.eq_ofNat_of_zero_le h3
      have g1 : z.1 < (W : Int) := h2
      have g2 : z.2 < (H : Int) := h4
      exact ⟨x, y, Prod.ext hx hy, by omega, by omega⟩
    refine ⟨fun s => s.2.toNat * W + s.1.toNat, ?_, ?_⟩
    · intro q hq
      obtain ⟨x, y, rfl, hx, hy⟩ := K q hq
      exact pl_lt hx hy
    · intro a b ha hb e
      obtain ⟨x, y, rfl, hx, hy⟩ := K a ha
      obtain ⟨u, v, rfl, hu, hv⟩ := K b hb
      simp only [Int.toNat_natCast] at e
      have e1 := plD (y := y) hx
      have e2 := plD (y := v) hu
      have e3 := plM (y := y) hx
      have e4 := plM (y := v) hu
      rw [e] at e1 e3
      rw [← e1, ← e3, e2, e4]
  bd q hq := by
    obtain ⟨⟨h1, h2⟩, h3, h4⟩ := (okC_iff.1 hq).1
    have g1 : q.1 < (W : Int) := h2
    have g2 : q.2 < (H : Int) := h4
    omega
theorem mem_nbF {p q : Int × Int} : q ∈ nbF p ↔ A4 p q := by
  obtain ⟨px, py⟩ := p
  obtain ⟨qx, qy⟩ := q
  simp only [nbF, arL, List.mem_cons, List.not_mem_nil, or_false, Prod.mk.injEq, A4]
  omega
theorem mem_nb8 {p q : Int × Int} : q ∈ nb8 p ↔ A8 p q := by
  obtain ⟨px, py⟩ := p
  obtain ⟨qx, qy⟩ := q
  simp only [nb8, ar8, List.mem_cons, List.not_mem_nil, or_false, Prod.mk.injEq, A8, A4]
  omega
/-- What the search reaches from a pixel is its part. -/
theorem rch_same {nb : Int × Int → List (Int × Int)} {L : List Bool} {W H : Nat} {c : Bool} (hnb : ∀ p q, q ∈ nb p ↔ if c then A8 p q else A4 p q) {a z : Int × Int} (ha : okC L W H c a = true) : Rch nb (okC L W H c) a z ↔ (pcI L W H).Same a z := by
  obtain ⟨h1, h2⟩ := okC_iff.1 ha
  constructor
  · intro h
    have key : (pcI L W H).Same a z ∧ okC L W H c z = true := by
      induction h with
      | start h => exact ⟨.start h1, h⟩
      | step p q _ hq ok ih =>
        obtain ⟨i1, i2⟩ := ih
        obtain ⟨k1, k2⟩ := okC_iff.1 i2
        obtain ⟨o1, o2⟩ := okC_iff.1 ok
        refine ⟨.step p q i1 ⟨o1, by rw [o2, k2], ?_⟩, ok⟩
        have := (hnb p q).1 hq
        cases c
        · exact .inl (by simpa using this)
        · exact .inr ⟨k2, by simpa using this⟩
    exact key.1
  · intro h
    induction h with
    | start h => exact .start ha
    | step p q hp hn ih =>
      have hcp : (pcI L W H).col p = c := by rw [hp.col, h2]
      refine .step p q ih ((hnb p q).2 ?_) (okC_iff.2 ⟨hn.1, by rw [hn.2.1, hcp]⟩)
      rcases hn.2.2 with h4 | ⟨h5, h8⟩
      · cases c
        · simpa using h4
        · exact .inl h4
      · rw [hcp] at h5
        subst h5
        exact h8
theorem nbC_iff (c : Bool) : ∀ p q, q ∈ nbC c p ↔ if c then A8 p q else A4 p q := fun p q => by
  cases c
  · exact mem_nbF
  · exact mem_nb8
theorem nbT_C (c : Bool) : ∃ K, K ≤ 8 ∧ NbT c (nbC c) K := by
  cases c
  · exact ⟨4, by decide, nbT_four⟩
  · exact ⟨8, by decide, nbT_eight⟩
theorem part_iff {L : List Bool} {W H : Nat} {c : Bool} (hW : W ≤ 20) (hH : H ≤ 20) {a z : Int × Int} (ha : okC L W H c a = true) : rchB (nbC c) (okC L W H c) (W * H) a z = true ↔ (pcI L W H).Same a z :=
  (rchB_iff (okB_C L c hW hH) ha).trans (rch_same (nbC_iff c) ha)
/-- A map of pixels that all lead to true. -/
def bs (s : Int × Int → Bool) : Int × Int → Option Value := fun q => if s q then some (.bool true) else none
theorem bs_bv (f : Int × Int → Option Nat) : bv f = bs fun q => (f q).isSome := by
  funext q
  cases h : f q <;> simp [bv, bs, h]
theorem bs_put (s : Int × Int → Bool) (q : Int × Int) : putF (bs s) q (.bool true) = bs fun x => s x || decide (x = q) := by
  funext x
  by_cases h : x = q
  · subst h; simp [putF, bs]
  · simp [putF, bs, h]
theorem bs_get (s : Int × Int → Bool) (q : Int × Int) : (bs s q).getD (.bool false) = .bool (s q) := by
  cases h : s q <;> simp [bs, h]
theorem enters_below1T : Enters 82 := enters_of Tryz.func82 (by kernel_rfl) (by kernel_rfl)
set_option maxHeartbeats 1000000 in
theorem below1T_any (p g W H m4 m6 : Nat) (L : List Bool) (c : Bool) (x y : Int) (w : World) (h : Img w p g W H L) (hm : Blk w m4 47 #[.pointer (some ⟨p, 0, none⟩)]) (hc : Blk w m6 4 #[.bool c]) (hW : W ≤ 1000) (hH : H ≤ 1000) :
    Calls Tryz.prog 82 (#[.agg #[.int .i64 x, .int .i64 y]] ++ #[.pointer (some ⟨m4, 0, none⟩), .pointer (some ⟨m6, 0, none⟩)]) w fun e w' => e = .returned (.bool (okC L W H (!c) (x, y))) ∧ Below w.heap.size w w' := by
  have B0 : Below w.heap.size w (w.alloc (.cells #[.int .i64 x, .int .i64 y] 38)) := Ext.more (Ext.refl _) _
  have GK := Lib.hid (fun V (hV : Below w.heap.size w V) => get_any p g W H L x y V (h.ext hV) hW hH)
  have HK := Lib.hid (fun V (hV : Below w.heap.size w V) => has_any p g W H L x y V (h.ext hV) hW hH)
  have k3 : (w.alloc (.cells #[.int .i64 x, .int .i64 y] 38)).cell? ⟨w.heap.size, 0, none⟩ = some (.int .i64 x) := cell_new w _ _ 0
  have k4 : (w.alloc (.cells #[.int .i64 x, .int .i64 y] 38)).cell? ⟨w.heap.size, 1, none⟩ = some (.int .i64 y) := cell_new w _ _ 1
  have c0 := (hm.under B0 hm.lt).cell 0
  have c1 := (hc.under B0 hc.lt).cell 0
  simp at c0 c1
  have E : okC L W H (!c) (x, y) = (hasB W H x y && (bit L W H x y == !c)) := rfl
  rw [E]
  clear h hm hc E
  generalize hasB W H x y = hh at *
  generalize bit L W H x y = b at *
  cases hh
  all_goals
    go_enter Tryz.func82, Tryz.ntmps82
    go_wp2_with fail
    go_quiet ((first
      | (go_at_call 35; exact Calls.quiet_of_same ((HK.out _ (Ext.drawN B0 _)).mono fun _ _ ⟨h, k⟩ => ⟨h, k.symm⟩))
      | (go_at_call 32; exact Calls.quiet_of (GK.out _ (Ext.drawN B0 _)))))
    go_wp2_with fail
    go_ret
    exact ⟨ret_bool (by cases b <;> cases c <;> rfl), Ext.drawN B0 _⟩
theorem enters_tree1T : Enters 70 := enters_of Tryz.func70 (by kernel_rfl) (by kernel_rfl)
set_option maxHeartbeats 1000000 in
theorem tree1T_any (p g W H m : Nat) (L : List Bool) (x y : Int) (w : World) (h : Img w p g W H L) (hm : Blk w m 47 #[.pointer (some ⟨p, 0, none⟩)]) (hW : W ≤ 1000) (hH : H ≤ 1000) :
    Calls Tryz.prog 70 (#[.agg #[.int .i64 x, .int .i64 y]] ++ #[.pointer (some ⟨m, 0, none⟩)]) w fun e w' => e = .returned (.bool (okC L W H false (x, y))) ∧ Below w.heap.size w w' := by
  have B0 : Below w.heap.size w (w.alloc (.cells #[.int .i64 x, .int .i64 y] 38)) := Ext.more (Ext.refl _) _
  have GK := Lib.hid (fun V (hV : Below w.heap.size w V) => get_any p g W H L x y V (h.ext hV) hW hH)
  have HK := Lib.hid (fun V (hV : Below w.heap.size w V) => has_any p g W H L x y V (h.ext hV) hW hH)
  have k3 : (w.alloc (.cells #[.int .i64 x, .int .i64 y] 38)).cell? ⟨w.heap.size, 0, none⟩ = some (.int .i64 x) := cell_new w _ _ 0
  have k4 : (w.alloc (.cells #[.int .i64 x, .int .i64 y] 38)).cell? ⟨w.heap.size, 1, none⟩ = some (.int .i64 y) := cell_new w _ _ 1
  have c0 := (hm.under B0 hm.lt).cell 0
  simp at c0
  have E : okC L W H false (x, y) = (hasB W H x y && (bit L W H x y == false)) := rfl
  rw [E]
  clear h hm E
  generalize hasB W H x y = hh at *
  generalize bit L W H x y = b at *
  obtain ⟨w1, hw1⟩ : ∃ w1, w.alloc (.cells #[.int .i64 x, .int .i64 y] 38) = w1 := ⟨_, rfl⟩
  rw [hw1] at B0 k3 k4 c0
  have HW := Lib.hid hw1
  clear hw1
  cases hh
  · go_enter Tryz.func70, Tryz.ntmps70
    go_upto_region 1 with fail
    try simp only [HW.out]
    go_wp2_with (go_at_call 35; refine (HK.out _ B0).mono ?_; rintro e w' ⟨rfl, rfl⟩)
    go_ret
    exact ⟨rfl, B0⟩
  · go_enter Tryz.func70, Tryz.ntmps70
    go_upto_region 1 with fail
    try simp only [HW.out]
    go_wp2_with (first
      | (go_at_call 35; refine (HK.out _ B0).mono ?_; rintro e w' ⟨rfl, rfl⟩)
      | (go_at_call 32; refine (GK.out _ B0).mono ?_; rintro e w' ⟨rfl, nd, rfl⟩))
    go_ret
    exact ⟨ret_bool (by cases b <;> rfl), Ext.drawN B0 _⟩
end Go.Proofs.YtdhajndmebnknaaGreat
