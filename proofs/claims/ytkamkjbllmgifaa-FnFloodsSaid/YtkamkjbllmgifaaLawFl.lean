/- The law FnFloods, walked. -/
import Derived.Test.YtkamkjbllmgifaaR10
import Derived.Test.YtkamkjbllmgifaaWayP
import Derived.Test.YtkamkjbllmgifaaFld
import Derived.Test.YtkamkjbllmgifaaB10M
namespace Go.Proofs.Ytkamkjbllmgifaa
open Go.RowKit

/-- What a flood leaves, by the least heights of ways. -/
structure FloP (G M O : Nat → Int) (W H : Nat) (P : Nat → Nat → Int) : Prop where
  val : ∀ a1 a2 b1 b2 : Nat, a1 < W → a2 < H → b1 < W → b2 < H → passV (gO G W H) a1 a2 b1 b2 = P (a2 * W + a1) (b2 * W + b1) ∧ passOk (gO G W H) a1 a2 b1 b2 = true
  bd : ∀ i j, i < W * H → j < W * H → 0 ≤ P i j
  all : ∀ i, i < W * H → 1 ≤ O i ∧ O i ≤ 9 ∧ (M i ≠ 0 → O i = M i)
  root : ∀ i, i < W * H → ∃ r, r < W * H ∧ M r ≠ 0 ∧ M r = O i ∧ ∀ j, j < W * H → M j ≠ 0 → P r i ≤ P j i
theorem flo_of {G M O hh : Nat → Int} {L : Int} {W H : Nat} (hW0 : 0 < W) (hW : W ≤ 16) (hH0 : 0 < H) (hH : H ≤ 16) (hG : ∀ i, i < W * H → 0 ≤ G i ∧ G i ≤ 99) (hs : ∃ r, r < W * H ∧ M r ≠ 0) (hF : FlI W (W * H) G M O hh [] L) : ∃ P, FloP G M O W H P := by
  have g : GreyN (gO G W H) W H (W * H) := ⟨gO_ok hW0 hW hH0 hH hG, tabW_gO _ hH0, gO_length _ _ _, rfl⟩
  have EX : ∀ i, ∃ O, IsPass W (W * H) G (fun j => j = i) O := fun i => IsPass.ex (fun i hi => (hG i hi).1)
  have plx : ∀ x y : Nat, plc W ((x : Int), (y : Int)) = y * W + x := fun x y => by simp [plc]
  have isin : ∀ x y : Nat, x < W → y < H → inR (gO G W H) (x : Int) (y : Int) = true := fun x y hx hy => by
    rw [inR, g.ok, g.w, g.h, Bool.true_and, inG_iff]; simp; omega
  have pok : ∀ a1 a2 b1 b2 : Nat, a1 < W → a2 < H → b1 < W → b2 < H → passOk (gO G W H) a1 a2 b1 b2 = true := fun a1 a2 b1 b2 h1 h2 h3 h4 => by rw [passOk, isin _ _ h1 h2, isin _ _ h3 h4]; rfl
  have hP : ∀ i, IsPass W (W * H) G (fun j => j = i) (fun j => (EX i).choose j) := fun i => (EX i).choose_spec
  have FG : ∀ i, i < W * H → gF (gO G W H) W i = G i := fun i hi => gF_gO G hi hW0
  have xy : ∀ i, i < W * H → ∃ x y : Nat, x < W ∧ y < H ∧ i = y * W + x := fun i hi => by
    obtain ⟨e, hm⟩ := pl_eq i hW0
    exact ⟨i % W, i / W, hm, pl_row hi, e⟩
  have PW : ∀ i j, i < W * H → j < W * H → Way W (W * H) G (fun k => k = i) ((EX i).choose j) j ∧ 0 ≤ (EX i).choose j ∧ (EX i).choose j ≤ 99 := fun i j hi hj => by
    obtain ⟨x, y, hx, hy, rfl⟩ := xy i hi
    obtain ⟨u, v, hu, hv, rfl⟩ := xy j hj
    exact pass_way hG hx hy hu hv (hP _)
  obtain ⟨r0, hr0, hM0⟩ := hs
  obtain ⟨f1, f2⟩ := hF.fin hr0 hM0 (fun i hi => ⟨_, (PW r0 i hr0 hi).1⟩)
  refine ⟨fun i j => (EX i).choose j, fun a1 a2 b1 b2 h1 h2 h3 h4 => ⟨?_, pok _ _ _ _ h1 h2 h3 h4⟩, fun i j hi hj => (PW i j hi hj).2.1, fun i hi => ?_, fun i hi => ?_⟩
  · rw [passV, pok _ _ _ _ h1 h2 h3 h4, if_pos rfl, passAt, pR, pR, g.w, g.h, plx, plx]
    exact passL_get ((hP _).congrG (fun i hi => (FG i hi).symm)) (pl_lt h3 h4)
  · have h1 := hF.bd i hi
    have h2 := f1 i hi
    exact ⟨by omega, h1.2, hF.keep i hi⟩
  · obtain ⟨r, r1, r2, r3, w⟩ := hF.root i hi (f1 i hi)
    refine ⟨r, r1, r2, r3, fun j hj hMj => ?_⟩
    have h1 := (hP r).least _ _ w
    have h2 := f2 i _ j hi hj hMj (PW j i hj hi).1
    exact Int.le_trans h1 h2
/-- The least number so far; -1 for none. -/
def MinI (S : Nat → Prop) (f : Nat → Int) (k : Nat) (v : Int) : Prop := (v = -1 ∧ ∀ j, j < k → ¬ S j) ∨ ((∃ r, r < k ∧ S r ∧ v = f r) ∧ ∀ j, j < k → S j → v ≤ f j)
theorem MinI.skip {S : Nat → Prop} {f : Nat → Int} {k : Nat} {v : Int} (h : MinI S f k v) (hS : ¬ S k) : MinI S f (k + 1) v := by
  rcases h with ⟨h1, h2⟩ | ⟨⟨r, r1, r2, r3⟩, h2⟩
  · refine .inl ⟨h1, fun j hj => ?_⟩
    rcases Nat.lt_succ_iff_lt_or_eq.1 hj with h | rfl
    · exact h2 j h
    · exact hS
  · refine .inr ⟨⟨r, by omega, r2, r3⟩, fun j hj hSj => ?_⟩
    rcases Nat.lt_succ_iff_lt_or_eq.1 hj with h | rfl
    · exact h2 j h hSj
    · exact absurd hSj hS
theorem MinI.take {S : Nat → Prop} {f : Nat → Int} {k : Nat} {v : Int} (h : MinI S f k v) (hS : S k) (hl : v < 0 ∨ f k < v) (h0 : ∀ j, j ≤ k → 0 ≤ f j) : MinI S f (k + 1) (f k) := by
  refine .inr ⟨⟨k, by omega, hS, rfl⟩, fun j hj hSj => ?_⟩
  rcases Nat.lt_succ_iff_lt_or_eq.1 hj with hjk | rfl
  · rcases h with ⟨_, h2⟩ | ⟨⟨r, r1, r2, r3⟩, h2⟩
    · exact absurd hSj (h2 j hjk)
    · have := h2 j hjk hSj
      have := h0 r (by omega)
      omega
  · exact Int.le_refl _
theorem MinI.keep {S : Nat → Prop} {f : Nat → Int} {k : Nat} {v : Int} (h : MinI S f k v) (hl : ¬ v < 0) (hl2 : ¬ f k < v) : MinI S f (k + 1) v := by
  rcases h with ⟨h1, _⟩ | ⟨⟨r, r1, r2, r3⟩, h2⟩
  · omega
  · refine .inr ⟨⟨r, by omega, r2, r3⟩, fun j hj hSj => ?_⟩
    rcases Nat.lt_succ_iff_lt_or_eq.1 hj with h | rfl
    · exact h2 j h hSj
    · omega
theorem FloP.fin {G M O : Nat → Int} {W H : Nat} {P : Nat → Nat → Int} (h : FloP G M O W H P) {t : Nat} (ht : t < W * H) {own any : Int} (h1 : MinI (fun j => M j ≠ 0 ∧ M j = O t) (fun j => P j t) (W * H) own) (h2 : MinI (fun j => M j ≠ 0) (fun j => P j t) (W * H) any) : 0 ≤ own ∧ own = any := by
  obtain ⟨r, r1, r2, r3, r4⟩ := h.root t ht
  rcases h1 with ⟨_, h1⟩ | ⟨⟨a, a1, ⟨a2, a2'⟩, a3⟩, h1⟩
  · exact absurd ⟨r2, r3⟩ (h1 r r1)
  rcases h2 with ⟨_, h2⟩ | ⟨⟨b, b1, b2, b3⟩, h2⟩
  · exact absurd r2 (h2 r r1)
  have e1 := h1 r r1 ⟨r2, r3⟩
  have e2 := r4 b b1 b2
  have e3 := h2 a a1 a2
  have e4 := h.bd a t a1 ht
  simp only at e1 e3 a3 b3
  omega
theorem gO_rowsF {V : World} {A : Option Addr} {O : Nat → Int} {W H : Nat} (h : MatRd V A (gO O W H)) (hH : 0 < H) (hW : 0 < W) :
    ∃ g, A = some ⟨g, 0, none⟩ ∧ g < V.heap.size ∧ ∀ y, y < H → ∃ r cr, V.cell? ⟨g, y, none⟩ = some (.slice (some ⟨r, 0, none⟩) W cr) ∧ r < V.heap.size ∧ ∀ x, x < W → V.cell? ⟨r, x, none⟩ = some (.int .i64 (O (y * W + x))) := by
  obtain ⟨g, e, hg, hc⟩ := h (by rw [gO_length]; exact hH)
  refine ⟨g, e, hg, fun y hy => ?_⟩
  have hy' : y < (gO O W H).length := by rw [gO_length]; exact hy
  obtain ⟨Ai, ci, q1, q2⟩ := hc y hy'
  rw [gO_w] at q1
  obtain ⟨r, rfl, hr, hcr⟩ := q2 (by simp [ints, gO_w]; exact hW)
  refine ⟨r, ci, q1, hr, fun x hx => ?_⟩
  have hx' : x < (gO O W H)[y].length := by rw [gO_w]; exact hx
  have := hcr x (by simpa [ints] using hx')
  rw [this]
  simp [ints, gO_get]
set_option maxRecDepth 100000 in
set_option maxHeartbeats 8000000 in
theorem walkFloods (w : World) (A : Option Addr) (n c : Nat) (l : List Int) (hl : BytesAt w A n l) (hn : n ≤ maxLen) (B : Option Addr) (m d : Nat) (l2 : List Int) (hl2 : BytesAt w B m l2) (hm : m ≤ maxLen) :
    Calls Try.prog 4 #[.slice A n c, .slice B m d] w fun e w' => e = .returned (.bool true) ∧ Below w.heap.size w w' := by
  have LO := Lib.hid (b10Long_any A B n c m d hn hm w)
  cases hlong : (decide (1048576 < n) || decide (1048576 < m))
  case true =>
    rw [hlong] at LO
    clear hl hl2 hn hm hlong
    go_enter Try.func4, Try.ntmps4
    go_wp2_with (go_at_call 9; refine LO.out.mono ?_; rintro e w' ⟨rfl, rfl⟩)
    go_ret
    exact ⟨rfl, Ext.refl _⟩
  rw [hlong] at LO
  have RG := Lib.hid (b10Grey_any A n c l w hl hn)
  have AT := Lib.hid (fun (k : Nat) (hk : k ≤ 10) (N : Nat) (hN : 0 < N) (hN2 : N ≤ 16) V (hb : Below w.heap.size w V) => (show Calls Try.prog 11 #[.slice A n c, .int .i64 k, .int .i64 N] V _ from b10At_any A n c l k N V (hl.ext hb) hN (by omega) (by omega) hn))
  have MK := Lib.hid (fun Ag cg (W H : Nat) G V (hb : Below w.heap.size w V) hA h1 h2 h3 h4 => b10Marks_any B m d l2 Ag cg W H G V (hl2.ext hb) hm hA h1 h2 h3 h4)
  clear hl hn hl2 hm hlong
  go_enter Try.func4, Try.ntmps4
  go_wp2_with (go_at_call 9; refine LO.out.mono ?_; rintro e w' ⟨rfl, rfl⟩)
  refine RG.out.mono ?_
  rintro e w1 ⟨A1, c1, G, W, H, rfl, W0, W6, H0, H6, hG, M1, hb1⟩
  clear RG LO
  have HG := Lib.hid hG
  have B1 := Ext.more hb1 (.cells #[.slice A1 H c1] 26)
  have T1 := Blk.made w1 26 #[.slice A1 H c1]
  replace M1 := M1.ext (Ext.more (Ext.refl _) (.cells #[.slice A1 H c1] 26))
  clear hb1 hG
  have KC : Hid (∀ V, Blk V w1.heap.size 26 #[.slice A1 H c1] → V.cell? ⟨w1.heap.size, 0, none⟩ = some (.slice A1 H c1)) := fun V hT => by simpa using hT.cell 0
  have k1 := KC.out _ T1
  go_wp2_with fail
  refine (MK.out A1 c1 W H G _ B1 M1 W0 W6 H0 H6).mono ?_
  rintro e w2 ⟨A2, c2, M, rfl, hM, hs, M2, hb2⟩
  have HM := Lib.hid hM
  have HS := Lib.hid hs
  have B2 := Ext.then_ B1 hb2
  have T2 := T1.under hb2 T1.lt
  replace M1 := M1.ext hb2
  clear hM hs MK T1 B1 hb2 k1
  have k1 := KC.out _ T2
  have FL := Lib.hid (flood_any A1 A2 c1 c2 W H G M w2 M1 M2 W0 (by omega) H0 (by omega) HG.out HM.out HS.out)
  go_wp2_with fail
  refine FL.out.mono ?_
  rintro e w3 ⟨A3, c3, O, hh, L, rfl, M3, hF, hb3⟩
  obtain ⟨P, hP⟩ := flo_of W0 (by omega) H0 (by omega) HG.out HS.out hF.out
  have HP := Lib.hid hP
  have B3 := Ext.then_ B2 hb3
  have T3 := T2.under hb3 T2.lt
  replace M1 := M1.ext hb3
  replace M2 := M2.ext hb3
  clear FL T2 B2 hb3 k1 hP hF
  have k1 := KC.out _ T3
  have SH := Lib.hid (b10Shape_any A3 A1 c3 c1 H (gO O W H) (gO G W H) w3 M3 M1 (gO_length _ _ _) (gO_length _ _ _) H0 (by omega) W (fun y hy => gO_w O W H y hy) (fun y hy => gO_w G W H y hy))
  go_wp2_with fail
  refine SH.out.mono ?_
  rintro e w4 ⟨rfl, hb4⟩
  have B4 := Ext.then_ B3 hb4
  have T4 := T3.under hb4 T3.lt
  replace M1 := M1.ext hb4
  replace M2 := M2.ext hb4
  replace M3 := M3.ext hb4
  clear SH T3 B3 hb4 k1
  have hWH : W * H ≤ 36 := Nat.le_trans (Nat.mul_le_mul W6 H6) (by decide)
  obtain ⟨g3, rfl, l3, hR3⟩ := gO_rowsF M3 H0 W0
  obtain ⟨g2, rfl, l2', hR2⟩ := gO_rowsF M2 H0 W0
  have HR3 := Lib.hid hR3
  have HR2 := Lib.hid hR2
  have AL := Lib.hid HP.out.all
  have PLT := Lib.hid (fun (x y : Nat) (hx : x < W) (hy : y < H) => pl_lt hx hy)
  clear hR3 hR2
  go_wp2_with fail
  go_loopw [9, 10, 11] (fun yv _ _ wr => ∃ y : Nat, y ≤ H ∧ yv = .int .i64 y ∧ wr = w4) (fun yv _ _ _ => H - (intOf yv).toNat)
  case atStart => exact ⟨0, Nat.zero_le _, rfl, rfl⟩
  case round =>
    obtain ⟨y, hy, rfl, hwr⟩ := hrel
    obtain rfl : w4 = wr := hwr.symm
    clear hwr
    by_cases hlt : y < H
    · obtain ⟨r3, e3, p3, q3, s3⟩ := HR3.out y hlt
      obtain ⟨r2, e2, p2, q2, s2⟩ := HR2.out y hlt
      have HS3 := Lib.hid s3
      have HS2 := Lib.hid s2
      have i0 : (0 : Int) ≤ (y : Int) := by omega
      have i1 : (y : Int) < (H : Int) := by omega
      clear s3 s2
      go_wp2_with fail
      go_loopw [10, 11] (fun xv _ wr => ∃ x : Nat, x ≤ W ∧ xv = .int .i64 x ∧ wr = w4) (fun xv _ _ => W - (intOf xv).toNat)
      case atStart => exact ⟨0, Nat.zero_le _, rfl, rfl⟩
      case round =>
        obtain ⟨x, hx, rfl, hwr⟩ := hrel
        obtain rfl : w4 = wr := hwr.symm
        clear hwr
        by_cases hxl : x < W
        · have c3 := HS3.out x hxl
          have c2 := HS2.out x hxl
          obtain ⟨a1, a2, a3⟩ := AL.out _ (PLT.out x y hxl hlt)
          have mb := HM.out _ (PLT.out x y hxl hlt)
          generalize O (y * W + x) = o at *
          generalize M (y * W + x) = mm at *
          have j0 : (0 : Int) ≤ (x : Int) := by omega
          have j1 : (x : Int) < (W : Int) := by omega
          have t1 : ¬ o < 1 := by omega
          have t2 : ¬ (9 : Int) < o := by omega
          by_cases hz : mm = 0
          · have t3 : ¬ (0 : Int) < mm := by omega
            clear a3 hz
            go_wp2_with fail
            go_roundw
            case rel => exact ⟨x + 1, by omega, by go_num, by trivial⟩
            case measure => simp [intOf]; omega
          · have t3 : (0 : Int) < mm := by omega
            have t4 : (mm != o) = false := by rw [a3 hz]; simp
            clear a3 hz
            go_wp2_with fail
            go_roundw
            case rel => exact ⟨x + 1, by omega, by go_num, by trivial⟩
            case measure => simp [intOf]; omega
        · obtain rfl : x = W := by omega
          go_wp2_with fail
          go_roundw
          case rel => exact ⟨y + 1, by omega, by go_num, by trivial⟩
          case measure => simp [intOf]; omega
    · obtain rfl : H = y := by omega
      have k1 := KC.out _ T4
      obtain ⟨g1, rfl, l1, hR1⟩ := gO_rowsF M1 H0 W0
      obtain ⟨r0, q0, e0, _, _⟩ := hR1 0 H0
      have i00 : (0 : Int) < (H : Int) := by omega
      have SS := Lib.hid (fun V (hb : Below w4.heap.size w4 V) => (show Below w4.heap.size w4 V ∧ V.cell? ⟨w1.heap.size, 0, none⟩ = some (.slice (some ⟨g1, 0, none⟩) H c1) ∧ V.cell? ⟨g1, 0, none⟩ = some (.slice (some ⟨r0, 0, none⟩) W q0) from
        ⟨hb, (hb.cell (p := ⟨w1.heap.size, 0, none⟩) T4.lt).trans k1, (hb.cell (p := ⟨g1, 0, none⟩) l1).trans e0⟩))
      clear hlt hy
      go_wp2_with fail
      go_region_held3 (fun V => Below w4.heap.size w4 V ∧ V.cell? ⟨w1.heap.size, 0, none⟩ = some (.slice (some ⟨g1, 0, none⟩) H c1) ∧ V.cell? ⟨g1, 0, none⟩ = some (.slice (some ⟨r0, 0, none⟩) W q0))
        (first | exact SS.out _ (Ext.draw (Ext.refl _)) | exact SS.out _ (Ext.more (Ext.draw (Ext.refl _)) _) | exact SS.out _ (Ext.draw (Ext.more (Ext.refl _) _)) | go_keep)
        (first
          | (go_at_call_of 11 (Value.int .i64 (W : Int)); refine (AT.out 0 (by omega) W W0 (by omega) _ (by first | exact Ext.draw B4 | exact Ext.more (Ext.draw B4) _ | exact Ext.draw (Ext.more B4 _))).mono ?_; rintro e w' ⟨⟨fx, hfx, rfl⟩, rfl⟩)
          | (go_at_call_of 11 (Value.int .i64 (H : Int)); refine (AT.out 1 (by omega) H H0 (by omega) _ (by first | exact Ext.draw B4 | exact Ext.more (Ext.draw B4) _ | exact Ext.draw (Ext.more B4 _))).mono ?_; rintro e w' ⟨⟨fy, hfy, rfl⟩, rfl⟩))
      all_goals as_aux_lemma =>
        have BX : Below w4.heap.size w4 ((w4.alloc (.cells #[.int .i64 fx, .int .i64 fy] 39)).drew) := Ext.draw (Ext.more (Ext.refl _) _)
        have XB : Blk ((w4.alloc (.cells #[.int .i64 fx, .int .i64 fy] 39)).drew) w4.heap.size 39 #[.int .i64 fx, .int .i64 fy] := Blk.made w4 _ _
        have TB := T4.under BX T4.lt
        have BB : Below w.heap.size w ((w4.alloc (.cells #[.int .i64 fx, .int .i64 fy] 39)).drew) := Ext.draw (Ext.more B4 _)
        have hX : Hid (∀ V, Blk V w4.heap.size 39 #[.int .i64 fx, .int .i64 fy] → V.cell? ⟨w4.heap.size, 0, none⟩ = some (.int .i64 fx) ∧ V.cell? ⟨w4.heap.size, 1, none⟩ = some (.int .i64 fy)) := fun V hT => ⟨by simpa using hT.cell 0, by simpa using hT.cell 1⟩
        have FT := Lib.hid (fun o a h1 h2 => HP.out.fin (PLT.out fx fy hfx hfy) (own := o) (any := a) h1 h2)
        have PC := Lib.hid (fun V (hV : Below w4.heap.size w4 V) (x y : Nat) (hx : x < W) (hy : y < H) => (show Calls Try.prog 20 #[.agg #[.slice (some ⟨g1, 0, none⟩) H c1], .agg #[.int .i64 x, .int .i64 y], .agg #[.int .i64 fx, .int .i64 fy]] V fun e w' => e = .returned (.tuple #[.int .i64 (P (y * W + x) (fy * W + fx)), .bool true]) ∧ Below V.heap.size V w' from by
          have k := passBetween_any (some ⟨g1, 0, none⟩) c1 (gO G W H) x y fx fy V (M1.ext hV) (by rw [gO_length]; omega) (fun i hi => by rw [gO_w]; omega)
          rwa [gO_length, (HP.out.val x y fx fy hx hy hfx hfy).1, (HP.out.val x y fx fy hx hy hfx hfy).2] at k))
        have PB := Lib.hid (fun (j : Nat) (hj : j < W * H) => HP.out.bd j (fy * W + fx) hj (PLT.out fx fy hfx hfy))
        obtain ⟨r3, q3, e3, p3, s3⟩ := HR3.out fy hfy
        have co := s3 fx hfx
        clear s3 k1 SS e0 hR1 T4 B4 M1 M2 M3 AL HP
        generalize hTT : fy * W + fx = tt at *
        generalize (w4.alloc (.cells #[.int .i64 fx, .int .i64 fy] 39)).drew = wB at *
        clear hTT
        generalize O tt = ot at *
        go_wp2_with fail
        go_loopw [13, 14, 15, 16, 17, 18] (fun ov av yv _ _ _ wr => ∃ (y : Nat) (o a : Int), y ≤ H ∧ yv = .int .i64 y ∧ ov = .int .i64 o ∧ av = .int .i64 a ∧ Hid (MinI (fun j => M j ≠ 0 ∧ M j = ot) (fun j => P j tt) (y * W) o) ∧ Hid (MinI (fun j => M j ≠ 0) (fun j => P j tt) (y * W) a) ∧ Below wB.heap.size wB wr) (fun _ _ yv _ _ _ _ => H - (intOf yv).toNat)
        case atStart => exact ⟨0, -1, -1, Nat.zero_le _, rfl, rfl, rfl, .inl ⟨rfl, fun j hj => by omega⟩, .inl ⟨rfl, fun j hj => by omega⟩, Ext.refl _⟩
        case round =>
          obtain ⟨y, o, a, hy, rfl, rfl, rfl, hO, hA, hb⟩ := hrel
          by_cases hlt : y < H
          · obtain ⟨r2, q2, e2, p2, s2⟩ := HR2.out y hlt
            have HS2 := Lib.hid s2
            have i0 : (0 : Int) ≤ (y : Int) := by omega
            have i1 : (y : Int) < (H : Int) := by omega
            clear s2
            go_wp2_with fail
            go_loopw [13, 14, 16, 17, 18] (fun ov av xv _ _ wr => ∃ (x : Nat) (o a : Int), x ≤ W ∧ xv = .int .i64 x ∧ ov = .int .i64 o ∧ av = .int .i64 a ∧ Hid (MinI (fun j => M j ≠ 0 ∧ M j = ot) (fun j => P j tt) (y * W + x) o) ∧ Hid (MinI (fun j => M j ≠ 0) (fun j => P j tt) (y * W + x) a) ∧ Below wB.heap.size wB wr) (fun _ _ xv _ _ _ => W - (intOf xv).toNat)
            case atStart => exact ⟨0, o, a, Nat.zero_le _, rfl, rfl, rfl, hO, hA, hb⟩
            case round =>
              obtain ⟨x, o, a, hx, rfl, rfl, rfl, hO, hA, hb⟩ := hrel
              have hbx := Ext.then_ BX hb
              have c2 := (hbx.cell (p := ⟨g2, y, none⟩) l2').trans e2
              by_cases hxl : x < W
              · have d2 := (hbx.cell (p := ⟨r2, x, none⟩) p2).trans (HS2.out x hxl)
                have xy1 := PLT.out x y hxl hlt
                obtain ⟨k, hk⟩ : ∃ k, y * W + x = k := ⟨_, rfl⟩
                have pk := PB.out k (by rw [← hk]; exact xy1)
                have PK : Hid (∀ j, j ≤ k → 0 ≤ P j tt) := fun j hj => PB.out j (by omega)
                rw [hk] at d2 hO hA
                have HK := Lib.hid hk
                clear xy1 hk
                have j0 : (0 : Int) ≤ (x : Int) := by omega
                have j1 : (x : Int) < (W : Int) := by omega
                by_cases hz : M k = 0
                · have t3 : (M k == 0) = true := by rw [hz]; rfl
                  have NO := Lib.hid (hO.out.skip (fun h => h.1 hz))
                  have NA := Lib.hid (hA.out.skip (fun h => h hz))
                  clear hz hO hA
                  generalize M k = mm at *
                  go_wp2_with fail
                  go_roundw
                  case rel => exact ⟨x + 1, o, a, by omega, by go_num, rfl, rfl, by rw [show y * W + (x + 1) = y * W + x + 1 from rfl, HK.out]; exact NO, by rw [show y * W + (x + 1) = y * W + x + 1 from rfl, HK.out]; exact NA, hb⟩
                  case measure => simp [intOf]; omega
                have t3 : (M k == 0) = false := by rw [beq_eq_false_iff_ne]; exact hz
                have pc := Lib.hid (PC.out _ hbx x y hxl hlt)
                rw [HK.out] at pc
                obtain ⟨p, hp⟩ : ∃ p, P k tt = p := ⟨_, rfl⟩
                rw [hp] at pc pk
                have XW := XB.under hb XB.lt
                obtain ⟨h0, h1⟩ := hX.out _ XW
                have h5 := KC.out _ (TB.under hb TB.lt)
                -- the least number of all
                have NA1 : Hid ((a < 0 ∨ p < a) → MinI (fun j => M j ≠ 0) (fun j => P j tt) (k + 1) p) := fun h => by rw [← hp]; exact hA.out.take hz (by rw [hp]; exact h) PK.out
                have NA2 : Hid (¬ (a < 0 ∨ p < a) → MinI (fun j => M j ≠ 0) (fun j => P j tt) (k + 1) a) := fun h => hA.out.keep (fun q => h (.inl q)) (by rw [hp]; exact fun q => h (.inr q))
                have CO : ∃ o' : Int, Hid (MinI (fun j => M j ≠ 0 ∧ M j = ot) (fun j => P j tt) (k + 1) o') ∧ ((M k == ot) = false ∧ o' = o ∨ (M k == ot) = true ∧ ((o < 0 ∧ o' = p) ∨ (¬ o < 0 ∧ p < o ∧ o' = p) ∨ (¬ o < 0 ∧ ¬ p < o ∧ o' = o))) := by
                  by_cases q0 : M k = ot
                  · by_cases q1 : o < 0
                    · exact ⟨p, by rw [← hp]; exact hO.out.take ⟨hz, q0⟩ (.inl q1) PK.out, .inr ⟨by rw [q0]; simp, .inl ⟨q1, rfl⟩⟩⟩
                    · by_cases q2 : p < o
                      · exact ⟨p, by rw [← hp]; exact hO.out.take ⟨hz, q0⟩ (.inr (by rw [hp]; exact q2)) PK.out, .inr ⟨by rw [q0]; simp, .inr (.inl ⟨q1, q2, rfl⟩)⟩⟩
                      · exact ⟨o, hO.out.keep q1 (by rw [hp]; exact q2), .inr ⟨by rw [q0]; simp, .inr (.inr ⟨q1, q2, rfl⟩)⟩⟩
                  · exact ⟨o, hO.out.skip (fun h => q0 h.2), .inl ⟨by rw [beq_eq_false_iff_ne]; exact q0, rfl⟩⟩
                obtain ⟨o', NO, CO⟩ := CO
                clear hz hO hA hp PK
                generalize M k = mm at *
                go_wp2_with fail
                refine pc.out.mono ?_
                rintro e w6 ⟨rfl, hb6⟩
                have hb7 := Ext.then_ hb hb6
                have hx7 := Ext.then_ BX hb7
                have f2 := (hx7.cell (p := ⟨g2, y, none⟩) l2').trans e2
                have f3 := (hx7.cell (p := ⟨r2, x, none⟩) p2).trans ((hbx.cell (p := ⟨r2, x, none⟩) p2).symm.trans d2)
                have f4 := (hx7.cell (p := ⟨g3, fy, none⟩) l3).trans e3
                have f5 := (hx7.cell (p := ⟨r3, fx, none⟩) p3).trans co
                have XW2 := XW.under hb6 XW.lt
                obtain ⟨h6, h7⟩ := hX.out _ XW2
                have z0 : (0 : Int) ≤ (fx : Int) := by omega
                have z1 : (fx : Int) < (W : Int) := by omega
                have z2 : (0 : Int) ≤ (fy : Int) := by omega
                have z3 : (fy : Int) < (H : Int) := by omega
                clear pc h0 h1 h5 XW XW2 c2 d2
                have HB6 := Lib.hid (And.intro hb7 (And.intro f2 (And.intro f3 (And.intro f4 (And.intro f5 (And.intro h6 h7))))))
                go_upto_region 30 with fail
                go_cut [144] (fun cv wx => ∃ β : Bool, cv = .bool β ∧ Hid (β = decide (a < 0 ∨ p < a)) ∧ wx = w6)
                case first =>
                  by_cases q1 : a < 0
                  · have HB : Hid (true = decide (a < 0 ∨ p < a)) := by rw [Hid, decide_eq_true (.inl q1)]
                    go_wp2_with fail
                    go_meet
                    exact ⟨_, rfl, HB, rfl⟩
                  · by_cases q2 : p < a
                    · have HB : Hid (true = decide (a < 0 ∨ p < a)) := by rw [Hid, decide_eq_true (.inr q2)]
                      go_wp2_with fail
                      go_meet
                      exact ⟨_, rfl, HB, rfl⟩
                    · have HB : Hid (false = decide (a < 0 ∨ p < a)) := by rw [Hid, decide_eq_false (by omega)]
                      go_wp2_with fail
                      go_meet
                      exact ⟨_, rfl, HB, rfl⟩
                case rest =>
                obtain ⟨β, rfl, hβ, hwc⟩ := hcut
                obtain rfl : w6 = wc := hwc.symm
                go_upto_if 144 with fail
                go_cut [14] (fun av wx => ∃ a'' : Int, av = .int .i64 a'' ∧ Hid (MinI (fun j => M j ≠ 0) (fun j => P j tt) (k + 1) a'') ∧ wx = w6)
                case first =>
                  cases β
                  · have NA := Lib.hid (NA2.out (of_decide_eq_false hβ.out.symm))
                    go_wp2_with fail
                    go_meet
                    exact ⟨_, rfl, NA, rfl⟩
                  · have NA := Lib.hid (NA1.out (of_decide_eq_true hβ.out.symm))
                    go_wp2_with fail
                    go_meet
                    exact ⟨_, rfl, NA, rfl⟩
                case rest =>
                  obtain ⟨a'', rfl, NA, hwc⟩ := hcut
                  obtain rfl : w6 = wc := hwc.symm
                  rcases CO with ⟨q3, rfl⟩ | ⟨q3, ⟨q4, rfl⟩ | ⟨q4, q5, rfl⟩ | ⟨q4, q5, rfl⟩⟩
                  all_goals
                    try have s1 := decide_eq_true q4
                    try have s1 := decide_eq_false q4
                    try have s2 := decide_eq_true q5
                    try have s2 := decide_eq_false q5
                    go_wp2_with fail
                    go_quiet (fail)
                    go_wp2_with fail
                    go_roundw
                    case rel => exact ⟨x + 1, _, _, by omega, by go_num, rfl, rfl, by rw [show y * W + (x + 1) = y * W + x + 1 from rfl, HK.out]; exact NO, by rw [show y * W + (x + 1) = y * W + x + 1 from rfl, HK.out]; exact NA, Ext.drawN hb7 _⟩
                    case measure => simp [intOf]; omega
              · obtain rfl : W = x := by omega
                go_wp2_with fail
                go_roundw
                case rel => exact ⟨y + 1, o, a, by omega, by go_num, rfl, rfl, by rw [Nat.succ_mul]; exact hO, by rw [Nat.succ_mul]; exact hA, hb⟩
                case measure => simp [intOf]; omega
          · obtain rfl : H = y := by omega
            have FF := FT.out o a (by rw [Nat.mul_comm]; exact hO.out) (by rw [Nat.mul_comm]; exact hA.out)
            have v0 : (0 : Int) ≤ o := FF.1
            have v1 : (o == a) = true := by rw [FF.2]; simp
            have v2 : o = a := FF.2
            have BF := BB.trans (hb.mono (BB.size))
            clear hO hA FF FT v2
            go_wp2_with fail
            go_ret
            exact ⟨rfl, BF⟩
end Go.Proofs.Ytkamkjbllmgifaa
