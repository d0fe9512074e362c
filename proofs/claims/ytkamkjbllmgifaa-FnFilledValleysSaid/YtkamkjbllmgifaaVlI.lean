/- Valleys: the program's, walked. -/
import Derived.Test.YtkamkjbllmgifaaVlJ
import Derived.Test.YtkamkjbllmgifaaHQM
namespace Go.Proofs.Ytkamkjbllmgifaa
open Go.RowKit
open Vl

theorem World.grownBy.belowV {a b c : World} {n r : Nat} (hg : b.grownBy c (some r)) (h : Below n a b) (hr : n ≤ r) (hn : n ≤ b.heap.size) : Below n a c := h.grown hg hn (fun z hz => by have := Option.some.inj hz; omega)
set_option maxRecDepth 100000 in
set_option maxHeartbeats 8000000 in
theorem valleys_any (p : Nat) (A : Option Addr) (c : Nat) (rows : List (List Int)) (W H : Nat) (w : World) (h : GreyAt w p A c rows) (hok : greyOk rows = true) (hW0 : tabW rows = W) (hH0 : rows.length = H) :
    Calls Try.prog 42 #[.pointer (some ⟨p, 0, none⟩)] w fun e w' => ∃ go gb RB MO MR d og oc B P Lp, e = .returned (.slice (some ⟨og, 0, none⟩) (fold (nbN W H) (gF rows W) (ordS (gF rows W) (W * H) 100)).n oc) ∧ IV w.heap.size W H p (W * H) go gb RB MO MR d og oc B P Lp (fold (nbN W H) (gF rows W) (ordS (gF rows W) (W * H) 100)) w' ∧ Below w.heap.size w w' := by
  have hmm := @run_makeMap Try.prog
  have hmf : ∀ (fn : Fn) (first cap : Array Value) (w : World), (Instr.makeFunc fn first cap).run Try.prog w = .ok (.func fn first cap) w := fun _ _ _ _ => rfl
  obtain ⟨s1, s2, s3, s4⟩ := tab_sizes hok
  rw [hW0] at s3 s4
  rw [hH0] at s1 s2
  have hr : ∀ y (hy : y < rows.length), rows[y].length = W := fun y hy => by rw [tab_row hok y hy, hW0]
  have GB := Lib.hid (gF_bd hok hW0)
  rw [hH0] at GB
  obtain ⟨w1, hw1⟩ : ∃ w1, w.alloc (.cells #[.pointer (some ⟨p, 0, none⟩)] 76) = w1 := ⟨_, rfl⟩
  have z1 : w1.heap.size = w.heap.size + 1 := by rw [← hw1]; simp
  have T1 : Blk w1 w.heap.size 76 #[.pointer (some ⟨p, 0, none⟩)] := by rw [← hw1]; exact Blk.made w _ _
  have B1 : Below w.heap.size w w1 := by rw [← hw1]; exact Ext.more (Ext.refl _) _
  have G1 := h.ext B1
  have hNl : W * H ≤ 256 := Nat.le_trans (Nat.mul_le_mul s4 s2) (by decide)
  have SP := Lib.hid (spots_any' p A c rows W w1 G1 (by omega) (by omega) hr)
  have c1 := T1.cell 0
  simp at c1
  rw [hH0, Nat.mul_comm H W] at SP
  have lw1 : w.heap.size < w1.heap.size := by omega
  have CK : Hid (∀ go, w1.heap.size ≤ go → CmpOk go 72 #[.pointer (some ⟨w.heap.size, 0, none⟩)] (fun V => Below w1.heap.size w1 V) (fun x => inG W H x = true) (fun x y => cmI (gF rows W (plc W x)) (gF rows W (plc W y))) (fun x => gF rows W (plc W x))) := fun go hgo =>
    { ent := enters_val1
      keep := fun V V' h1 h2 => h1.trans (h2.below (fun k hk => by rw [hk]; exact hgo) h1.size)
      lt := fun x y _ _ => cmI_lt _ _
      call := fun V x y hV hx hy => val1_any w.heap.size p A c rows W x y V (G1.ext hV) hr (by have := (hV.cell (p := ⟨w.heap.size, 0, none⟩) lw1).trans c1; exact this) (Nat.lt_of_lt_of_le lw1 hV.size) (by rw [hH0]; exact hx) (by rw [hH0]; exact hy) }
  have HG1 := Lib.hid (And.intro G1 T1)
  have HB1 := Lib.hid B1
  obtain ⟨N, hN⟩ : ∃ N, N = W * H := ⟨_, rfl⟩
  have HN := Lib.hid hN
  rw [← hN] at SP hNl GB ⊢
  clear h G1 T1 B1 hN
  go_enter Try.func42, Try.ntmps42
  go_wp2_with fail
  try simp only [hw1]
  refine SP.out.mono ?_
  rintro e w2 ⟨go, ca, rfl, hrow, hb2⟩
  have hgo := (hrow.lt go rfl).1
  have S2 : SpF w2 go N (spt W) := own_spF hrow _ (fun i hi => by rw [spG_spt]; simp [hi])
  have SS := Lib.hid (sortStable_any (pl := fun x => ((plc W x : Nat) : Int)) go N ca (spt W) w2 (CK.out go hgo) S2 hb2 (fun i hi => spt_in s3 (by rw [← HN.out]; exact hi)) (fun i j h1 h2 h3 => by simp only [plc_spt]; omega) (by omega))
  have HB2 := Lib.hid hb2
  clear hrow S2 CK SP hb2
  go_wp2_with (go_at_call 71; refine SS.out.mono ?_; rintro e w3 ⟨rfl, ⟨d, hS3, hm3, hs3⟩, hC3⟩)
  have hgo3 := hS3.lt
  obtain ⟨EO, ED⟩ := ord_eq s3 HN.out GB.out hm3 hs3
  have HEO := Lib.hid EO
  have HED := Lib.hid ED
  have HS3 := Lib.hid hS3
  have B3 : Hid (Below w1.heap.size w1 w3) := HB2.out.trans (hC3.below (fun k hk => by rw [hk]; exact hgo) HB2.out.size)
  have z3 := B3.out.size
  clear EO ED hS3 hm3 hs3 hC3 SS HB2
  go_wp2_with fail
  obtain ⟨q, hq⟩ : ∃ q, q = w3.heap.size := ⟨_, rfl⟩
  have HQ0 := Lib.hid hq
  have I0 : Hid (∀ V, V = ((((w3.alloc (.cells #[] 65)).alloc (.map #[] 0)).alloc (.map #[] 0)).alloc (.cells #[.map (some (w3.heap.size + 1 + 1))] 105)) → IV w.heap.size W H p N go w.heap.size (q + 3) (q + 1) (q + 2) d q 0 (fun _ => 0) (fun _ => .slice none 0 0) (fun _ => []) VS.start V ∧ Below w.heap.size w V ∧ Below w1.heap.size w1 V) := by
    rintro V rfl
    have q0 := HQ0.out
    have m1 := MapF.made (kv := spV) (good := spOk) (w3.alloc (.cells #[] 65))
    have m2 := MapF.made (kv := ptV) (good := fun _ => True) ((w3.alloc (.cells #[] 65)).alloc (.map #[] 0))
    have e1 : (w3.alloc (.cells #[] 65)).heap.size = q + 1 := by simp [q0]
    have e2 : ((w3.alloc (.cells #[] 65)).alloc (.map #[] 0)).heap.size = q + 2 := by simp [q0]
    have e3 : (((w3.alloc (.cells #[] 65)).alloc (.map #[] 0)).alloc (.map #[] 0)).heap.size = q + 3 := by simp [q0]
    rw [e1] at m1
    rw [e2] at m2
    have X1 : Below w3.heap.size w3 (w3.alloc (.cells #[] 65)) := Ext.more (Ext.refl _) _
    have XA : Below w3.heap.size w3 ((((w3.alloc (.cells #[] 65)).alloc (.map #[] 0)).alloc (.map #[] 0)).alloc (.cells #[.map (some (w3.heap.size + 1 + 1))] 105)) := Ext.more (Ext.more (Ext.more X1 _) _) _
    have b3 : Below w.heap.size w w3 := HB1.out.trans (B3.out.mono (by omega))
    have T1 := HG1.out.2.under B3.out lw1
    refine ⟨⟨?_, ?_, ?_, fun v hv => by simp [VS.start] at hv, fun v hv => by simp [VS.start] at hv, fun v hv => by simp [VS.start] at hv, fun u v hu => by simp [VS.start] at hu, fun u v hu => by simp [VS.start] at hu, HS3.out.ext XA, T1.under XA T1.lt, ?_, ⟨by omega, by omega, by omega, by omega, fun v hv => by simp [VS.start] at hv⟩, ⟨by omega, by omega⟩, ⟨by omega, by omega, by omega, by omega, by omega, by omega, fun v hv => by simp [VS.start] at hv⟩⟩, b3.trans (XA.mono b3.size), B3.out.trans (XA.mono B3.out.size)⟩
    · have : ofM W H (fun _ => 0) VS.start.own = fun _ => none := by funext z; simp [ofM, VS.start]
      rw [this]
      exact m1.ext (Ext.more (Ext.more (Ext.refl _) _) _)
    · have : rkM (fun _ => 0) VS.start.n = fun _ => none := by funext z; simp [rkM, VS.start]
      rw [this]
      exact m2.ext (Ext.more (Ext.refl _) _)
    · have := (((World.ownsRow_lit (e := 65) (size := 1) w3 #[] 0 (base := w.heap.size) b3.size (by decide) rfl).alloc (.map #[] 0)).alloc (.map #[] 0)).alloc (.cells #[.map (some (w3.heap.size + 1 + 1))] 105)
      rw [q0]
      exact this
    · have := Blk.made (((w3.alloc (.cells #[] 65)).alloc (.map #[] 0)).alloc (.map #[] 0)) 105 #[.map (some (w3.heap.size + 1 + 1))]
      rw [e3] at this
      rw [show q + 2 = w3.heap.size + 1 + 1 by omega]
      exact this
  obtain ⟨w4, hw4⟩ : ∃ w4, w4 = ((((w3.alloc (.cells #[] 65)).alloc (.map #[] 0)).alloc (.map #[] 0)).alloc (.cells #[.map (some (w3.heap.size + 1 + 1))] 105)) := ⟨_, rfl⟩
  rw [← hw4]
  obtain ⟨J0, K0, K1⟩ := I0.out w4 hw4
  rw [show w3.heap.size + 1 + 1 + 1 = q + 3 by omega, show w3.heap.size + 1 + 1 = q + 2 by omega, show w3.heap.size + 1 = q + 1 by omega, ← hq]
  have gq : w1.heap.size ≤ q := by omega
  clear hw4 I0 HQ0 hq z3 hgo3 HS3 c1
  obtain ⟨o, ho⟩ : ∃ o : Nat → Nat, o = fun k => plc W (d k) := ⟨_, rfl⟩
  have HO : Hid (∀ k, k < N → d k = spt W (o k) ∧ o k < N) := by rw [ho]; exact HED.out
  have HEO2 : Hid ((List.range N).map o = ordS (gF rows W) N 100) := by rw [ho]; exact HEO.out
  clear ho HED HEO
  have ORD := Lib.hid (fun k (hk : k < N) => ord_pre (nbN W H) HEO2.out hk)
  have GP : Hid (∀ V, Below w.heap.size w V → Below w1.heap.size w1 V → GreyAt V p A c rows) := fun V _ h2 => HG1.out.1.ext h2
  have J0' : IV w.heap.size W H p N go w.heap.size (q + 3) (q + 1) (q + 2) d q 0 (fun _ => 0) (fun _ => .slice none 0 0) (fun _ => []) (fold (nbN W H) (gF rows W) ((List.range 0).map o)) w4 := J0
  clear J0
  go_wp2_with fail
  go_loopw [4, 28] (fun ov kv wr => ∃ (k og oc m : Nat) (B : Nat → Nat) (P : Nat → Value) (Lp : Nat → List Nat), k ≤ N ∧ kv = .int .i64 k ∧ ov = .slice (some ⟨og, 0, none⟩) m oc ∧ Hid ((fold (nbN W H) (gF rows W) ((List.range k).map o)).n = m) ∧ IV w.heap.size W H p N go w.heap.size (q + 3) (q + 1) (q + 2) d og oc B P Lp (fold (nbN W H) (gF rows W) ((List.range k).map o)) wr ∧ Below w.heap.size w wr ∧ Below w1.heap.size w1 wr) (fun _ kv _ => N - (intOf kv).toNat)
  case atStart => exact ⟨0, q, 0, 0, _, _, _, Nat.zero_le _, rfl, rfl, rfl, J0', K0, K1⟩
  case round =>
    obtain ⟨k, og, oc, m, B, P, Lp, hk, rfl, rfl, hm, hI, hB, hB1⟩ := hrel
    clear J0' K0 K1
    by_cases hlt : k < N
    · obtain ⟨od1, od2⟩ := HO.out k hlt
      obtain ⟨OK1, own1, ST, g0, -, nN⟩ := ORD.out k hlt
      obtain ⟨c0, c1⟩ := hI.ord.cell k hlt
      rw [od1] at c0 c1
      obtain ⟨i, hi⟩ : ∃ i, i = o k := ⟨_, rfl⟩
      have NXT : Hid (∀ og oc B P Lp V, IV w.heap.size W H p N go w.heap.size (q + 3) (q + 1) (q + 2) d og oc B P Lp (stepV (nbN W H i) (gF rows W i) i (fold (nbN W H) (gF rows W) ((List.range k).map o))) V → IV w.heap.size W H p N go w.heap.size (q + 3) (q + 1) (q + 2) d og oc B P Lp (fold (nbN W H) (gF rows W) ((List.range (k + 1)).map o)) V) := fun og oc B P Lp V h => by rw [ST, ← hi]; exact h
      have NXN : Hid ((fold (nbN W H) (gF rows W) ((List.range (k + 1)).map o)).n = (stepV (nbN W H i) (gF rows W i) i (fold (nbN W H) (gF rows W) ((List.range k).map o))).n) := by rw [Hid, ST, ← hi]
      rw [← hi] at c0 c1 own1 g0 od2
      clear ST od1 hi
      generalize fold (nbN W H) (gF rows W) ((List.range k).map o) = st at *
      have NQ : Hid (nearQ W H st.own (arL ((i % W : Nat) : Int) ((i / W : Nat) : Int)) = near st (nbN W H i)) := nearQ_near W H i st
      obtain ⟨ei, hmod⟩ := pl_eq (W := W) i s3
      have hdiv : i / W < H := pl_row (by rw [← HN.out]; exact od2)
      have SPT : Hid (spt W i = (((i % W : Nat) : Int), ((i / W : Nat) : Int))) := rfl
      simp only [spt] at c0 c1
      have GAT : Hid (∀ V, GreyAt V p A c rows → Calls Try.prog 41 #[.pointer (some ⟨p, 0, none⟩), .agg #[.int .i64 ((i % W : Nat) : Int), .int .i64 ((i / W : Nat) : Int)]] V fun e w' => e = .returned (.int .i64 (gF rows W i)) ∧ Below V.heap.size V w') := fun V hV => by
        have := g_at hV hr hmod (show i / W < rows.length by rw [hH0]; exact hdiv)
        rw [← ei] at this; exact this
      have GPL : Hid (∀ V, GreyAt V p A c rows → Calls Try.prog 76 #[.pointer (some ⟨p, 0, none⟩), .agg #[.int .i64 ((i % W : Nat) : Int), .int .i64 ((i / W : Nat) : Int)]] V fun e w' => e = .returned (.int .i64 ((i : Nat) : Int)) ∧ Below V.heap.size V w') := fun V hV => by
        have := place_any p A c rows (i % W) (i / W) V hV (by omega) (by omega) (by omega) (by omega)
        rw [hW0, ← ei] at this; exact this
      generalize hx : i % W = x at *
      generalize hy : i / W = y at *
      have HXY := Lib.hid (And.intro hx hy)
      have HEI := Lib.hid ei
      generalize gF rows W i = g at *
      generalize nbN W H i = ps at *
      have HOK := Lib.hid (And.intro OK1 own1)
      have HNN := Lib.hid nN
      have i0 : (0 : Int) ≤ (k : Int) := by omega
      have i1 : (k : Int) < (N : Int) := by omega
      have wk : IntKind.i64.wrap ((k : Int) + 1) = ((k + 1 : Nat) : Int) := by rw [IntWalk.i64_in _ (by omega)]; simp
      obtain ⟨wb, hwb⟩ : ∃ wb, wb = wr.heap.size := ⟨_, rfl⟩
      have LTB : Hid (∀ b, IVb (q + 1) (q + 2) og go w.heap.size (q + 3) st.n B P b → b < wb) := fun b hb => by rw [hwb]; exact (hI.lt b hb).2
      have T5 := Blk.made wr 39 #[.int .i64 (x : Int), .int .i64 (y : Int)]
      obtain ⟨w5, hw5⟩ : ∃ w5, w5 = (wr.alloc (.cells #[.int .i64 (x : Int), .int .i64 (y : Int)] 39)) := ⟨_, rfl⟩
      have T6 : Hid (∀ V, V = (wr.alloc (.cells #[.int .i64 (x : Int), .int .i64 (y : Int)] 39)).alloc (.cells #[] 65) → Blk V wb 39 #[.int .i64 (x : Int), .int .i64 (y : Int)] ∧ V.ownsRow wb 65 1 (.slice (some ⟨wb + 1, 0, none⟩) 0 0) 0 [] ∧ IV w.heap.size W H p N go w.heap.size (q + 3) (q + 1) (q + 2) d og oc B P Lp st V ∧ Below w.heap.size w V ∧ Below w1.heap.size w1 V ∧ wb + 2 ≤ V.heap.size) := by
        rintro V rfl
        have XA : Below wr.heap.size wr ((wr.alloc (.cells #[.int .i64 (x : Int), .int .i64 (y : Int)] 39)).alloc (.cells #[] 65)) := Ext.more (Ext.more (Ext.refl _) _) _
        refine ⟨by rw [hwb]; exact T5.more _, ?_, hI.ext XA, hB.trans (XA.mono hB.size), hB1.trans (XA.mono hB1.size), by simp; omega⟩
        have := World.ownsRow_lit (e := 65) (size := 1) (wr.alloc (.cells #[.int .i64 (x : Int), .int .i64 (y : Int)] 39)) #[] 0 (base := wb) (by simp; omega) (by decide) rfl
        rw [hwb] at this ⊢
        simpa using this
      have wbo : w.heap.size ≤ wb ∧ w1.heap.size ≤ wb := by have h1 := hB.size; have h2 := hB1.size; omega
      have HWB := Lib.hid hwb
      clear OK1 own1 nN hx hy ei hw5 T5 hI hB hB1 hwb
      go_upto_region 9 with fail
      obtain ⟨w6, hw6⟩ : ∃ w6, w6 = (wr.alloc (.cells #[.int .i64 (x : Int), .int .i64 (y : Int)] 39)).alloc (.cells #[] 65) := ⟨_, rfl⟩
      rw [← hw6, ← HWB.out]
      obtain ⟨Tb, On, I6, B6, C6, z6⟩ := T6.out w6 hw6
      have d0 := Tb.cell 0
      have d1 := Tb.cell 1
      simp at d0 d1
      have tl := Tb.lt
      clear hw6 T6 c0 c1 HWB
      go_wp2_with (go_at_call 74; refine (around_any _ _ _ (by omega) (by omega)).mono ?_; rintro e w7 ⟨ga, ca', rfl, hrow7, hb7⟩)
      have SA7 : SpAt w7 ga (arL (x : Int) (y : Int)) := own_spots hrow7 rfl
      have hga := (hrow7.lt ga rfl).1
      have I7 := I6.ext hb7
      have On7 := own_ext hb7 On
      have Tb7 := Tb.under hb7 tl
      have B7 := B6.trans (hb7.mono B6.size)
      have C7 := C6.trans (hb7.mono C6.size)
      have GQ : Hid (∀ V, Below w1.heap.size w1 V → GreyAt V p A c rows) := fun V hV => HG1.out.1.ext hV
      have AL : Hid ((arL (x : Int) (y : Int)).length = 4) := rfl
      have AB : Hid (∀ j (hj : j < (arL (x : Int) (y : Int)).length), spOk (arL (x : Int) (y : Int))[j]) := fun j hj => by
        have hj4 : j < 4 := hj
        have : j = 0 ∨ j = 1 ∨ j = 2 ∨ j = 3 := by omega
        rcases this with e | e | e | e <;> subst e <;> simp [arL, spOk] <;> omega
      have zga : w6.heap.size ≤ ga := hga
      have N0 : Hid (nearQ W H st.own ((arL (x : Int) (y : Int)).take 0) = []) := rfl
      clear hrow7 hb7 I6 On Tb B6 C6 d0 d1 hga
      generalize arL (x : Int) (y : Int) = ar at *
      go_wp2_with fail
      go_loopw [9, 39] (fun nv jv wx => ∃ (j gn cn ln : Nat) (nl : List Nat), j ≤ 4 ∧ Hid (gn ≠ ga) ∧ jv = .int .i64 j ∧ nv = .slice (some ⟨gn, 0, none⟩) ln cn ∧ Hid (nl.length = ln) ∧ Hid (nl = ddup (nearQ W H st.own (ar.take j))) ∧ wx.ownsRow wb 65 1 (.slice (some ⟨gn, 0, none⟩) ln cn) ln (nl.map fun v => ptV (B v)) ∧ IV w.heap.size W H p N go w.heap.size (q + 3) (q + 1) (q + 2) d og oc B P Lp st wx ∧ SpAt wx ga ar ∧ Blk wx wb 39 #[.int .i64 (x : Int), .int .i64 (y : Int)] ∧ Below w.heap.size w wx ∧ Below w1.heap.size w1 wx) (fun _ jv _ => 4 - (intOf jv).toNat)
      case atStart => exact ⟨0, wb + 1, 0, 0, [], Nat.zero_le _, by rw [Hid]; omega, rfl, rfl, rfl, by rw [N0.out]; rfl, On7, I7, SA7, Tb7, B7, C7⟩
      case round =>
        obtain ⟨j, gn, cn, ln, nl, hj, hga, rfl, rfl, hln, hnl, hOn, hI, hSA, hTb, hB, hB1⟩ := hrel
        clear On7 I7 SA7 Tb7 B7 C7
        by_cases hj4 : j < 4
        ·
          have hja : j < ar.length := by rw [AL.out]; exact hj4
          obtain ⟨e0, e1⟩ := hSA.2 j hja
          have NT := Lib.hid (nearQ_take (W := W) (H := H) (own := st.own) hja)
          have SOK := Lib.hid (AB.out j hja)
          generalize ar[j] = qq at *
          obtain ⟨qx, qy⟩ := qq
          simp only at e0 e1
          have EX := Ext.more (Ext.refl wr) (.cells #[.int .i64 qx, .int .i64 qy] 39)
          have gal := hSA.1
          have HX : Hid (∀ V, V = wr.alloc (.cells #[.int .i64 qx, .int .i64 qy] 39) → V.ownsRow wb 65 1 (.slice (some ⟨gn, 0, none⟩) ln cn) ln (nl.map fun v => ptV (B v)) ∧ IV w.heap.size W H p N go w.heap.size (q + 3) (q + 1) (q + 2) d og oc B P Lp st V ∧ SpAt V ga ar ∧ Blk V wb 39 #[.int .i64 (x : Int), .int .i64 (y : Int)] ∧ Below w.heap.size w V ∧ Below w1.heap.size w1 V ∧ V.cell? ⟨wr.heap.size, 0, none⟩ = some (.int .i64 qx) ∧ V.cell? ⟨wr.heap.size, 1, none⟩ = some (.int .i64 qy)) := by
            rintro V rfl
            exact ⟨own_ext EX hOn, hI.ext EX, hSA.ext EX, hTb.under EX hTb.lt, hB.trans (EX.mono hB.size), hB1.trans (EX.mono hB1.size), cell_new wr _ _ 0, cell_new wr _ _ 1⟩
          have j0 : (0 : Int) ≤ (j : Int) := by omega
          have j1 : (j : Int) < (4 : Int) := by omega
          have wj : IntKind.i64.wrap ((j : Int) + 1) = ((j + 1 : Nat) : Int) := by rw [IntWalk.i64_in _ (by omega)]; simp
          clear hOn hI hSA hTb hB hB1 EX hja
          go_upto_region 12 with fail
          obtain ⟨w8, hw8⟩ : ∃ w8, w8 = wr.alloc (.cells #[.int .i64 qx, .int .i64 qy] 39) := ⟨_, rfl⟩
          rw [← hw8]
          obtain ⟨O8, I8, S8, T8, B8, C8, f0, f1⟩ := HX.out w8 hw8
          clear HX hw8 e0 e1
          obtain ⟨r, hr⟩ : ∃ r, (if inG W H (qx, qy) = true then st.own (plc W (qx, qy)) else none) = r := ⟨_, rfl⟩
          have OV : ofM W H B st.own (qx, qy) = r.map fun v => ptV (B v) := by
            rw [← hr]
            unfold ofM
            by_cases c : inG W H (qx, qy) = true
            · rw [if_pos c, if_pos c]
            · rw [if_neg c, if_neg c]; rfl
          have RL : Hid (∀ v, r = some v → v < st.n) := fun v hv => by
            rw [← hr] at hv
            by_cases c : inG W H (qx, qy) = true
            · rw [if_pos c] at hv; exact (HOK.out.1.own _ v hv).1
            · rw [if_neg c] at hv; cases hv
          rw [hr] at NT
          clear hr
          have NL : Hid (∀ u ∈ nl, u < st.n) := fun u hu => by
            rw [hnl.out, (ddup_facts _).2.1] at hu
            obtain ⟨z, hz, e⟩ := List.mem_filterMap.1 hu
            by_cases c : inG W H z = true
            · rw [if_pos c] at e; exact (HOK.out.1.own _ u e).1
            · rw [if_neg c] at e; cases e
          have HMO := Lib.hid I8.mo
          cases r with
          | none =>
            rw [Option.map_none] at OV
            have ND : Hid (nl = ddup (nearQ W H st.own (ar.take (j + 1)))) := by rw [Hid, NT.out]; simpa using hnl.out
            have HH := Lib.hid (And.intro O8 (And.intro I8 (And.intro S8 (And.intro T8 (And.intro B8 C8)))))
            clear O8 I8 S8 T8 B8 C8 RL NL NT
            go_wp2_with (at_lookup; refine wpList_lookF spotK _ (by rfl) _ _ _ false (by rfl) Try.underlying104 (zeroPt _) (by rfl) HMO.out (qx, qy) SOK.out (by rfl) ?_; rw [OV]; simp only [Option.getD_none, Bool.false_eq_true, if_false])
            exact ⟨⟨j + 1, gn, cn, ln, nl, by omega, hga, by go_num, rfl, hln, ND, HH.out.1, HH.out.2.1, HH.out.2.2.1, HH.out.2.2.2.1, HH.out.2.2.2.2.1, HH.out.2.2.2.2.2⟩, by simp [intOf]; omega⟩
          | some v =>
            rw [Option.map_some] at OV
            have vn := RL.out v rfl
            have PF := own_ptF O8 hln.out
            have CL : Hid (∀ r : Bool, nl.contains v = r → Calls Try.prog 75 #[.slice (some ⟨gn, 0, none⟩) ln cn, .pointer (some ⟨B v, 0, none⟩)] w8 fun e w' => e = .returned (.bool r) ∧ w8 = w') := fun r hr =>
              containsP_any gn cn ln B (fun i => nl.getD i 0) (B v) w8 PF (fun i hi => by
                have hi2 : i < nl.length := by rw [hln.out]; exact hi
                have : nl.getD i 0 < st.n := by
                  rw [List.getD_eq_getElem?_getD, List.getElem?_eq_getElem hi2, Option.getD_some]
                  exact NL.out _ (List.getElem_mem hi2)
                exact ⟨_, _, I8.val _ this⟩) ⟨_, _, I8.val v vn⟩ (by
                have h1 := (ddup_facts (nearQ W H st.own (ar.take j))).2.2
                rw [← hnl.out, hln.out] at h1
                have h2 : (nearQ W H st.own (ar.take j)).length ≤ (ar.take j).length := List.length_filterMap_le _ _
                have h3 : (ar.take j).length ≤ j := by rw [List.length_take]; omega
                omega) r (by rw [← hr]; exact contains_B I8.inj hln.out NL.out vn)
            have LNB : ln ≤ 4 := by
              have h1 := (ddup_facts (nearQ W H st.own (ar.take j))).2.2
              rw [← hnl.out, hln.out] at h1
              have h2 : (nearQ W H st.own (ar.take j)).length ≤ (ar.take j).length := List.length_filterMap_le _ _
              have h3 : (ar.take j).length ≤ j := by rw [List.length_take]; omega
              omega
            have HH := Lib.hid (And.intro O8 (And.intro I8 (And.intro S8 (And.intro T8 (And.intro B8 C8)))))
            have DA := Lib.hid (ddup_app (nearQ W H st.own (ar.take j)) v)
            cases hcv : nl.contains v
            · have CLF := Lib.hid (CL.out false hcv)
              have ND : Hid (nl ++ [v] = ddup (nearQ W H st.own (ar.take (j + 1)))) := by
                rw [Hid, NT.out]
                show nl ++ [v] = ddup (nearQ W H st.own (ar.take j) ++ [v])
                rw [DA.out, ← hnl.out, if_neg (by rw [hcv]; simp)]
              have gw := (O8.lt gn rfl)
              have lw8 : w.heap.size ≤ w8.heap.size := B8.size
              clear CL PF I8 S8 T8 B8 C8 RL NL NT DA
              go_wp2_with (first
                | (at_lookup; refine wpList_lookF spotK _ (by rfl) _ _ _ false (by rfl) Try.underlying104 (zeroPt _) (by rfl) HMO.out (qx, qy) SOK.out (by rfl) ?_; rw [OV]; simp only [Option.getD_some, Bool.false_eq_true, if_false, ptV])
                | (go_at_call 75; refine CLF.out.mono ?_; rintro e w9 ⟨rfl, rfl⟩)
                | (at_builtin; refine wpList_app valPT (by rfl) _ _ (by rfl) wb (.slice (some ⟨gn, 0, none⟩) ln cn) ln (nl.map fun v => ptV (B v)) (by rfl) (O8.alloc _) w8.heap.size #[.pointer (some ⟨B v, 0, none⟩)] (by rfl) (by exact heap_alloc_new w8 _) rfl (by simp [Value.oneCell']) (by omega) (by simp; omega) ?_; intro g9 c9 w9 own9 hg9 hat9 hlt9))
              have own9' : w9.ownsRow wb 65 1 (.slice (some ⟨g9, 0, none⟩) (ln + 1) c9) (ln + 1) ((nl ++ [v]).map fun v => ptV (B v)) := by simpa [ptV] using own9
              have hg9' : World.grownBy _ w9 (some gn) := hg9
              have EX := Ext.more (Ext.refl w8) (.cells #[.pointer (some ⟨B v, 0, none⟩)] 65)
              have gt : gn ≠ wb := fun e => own_blk_ne (HH.out.1) HH.out.2.2.2.1 (by decide) (by rw [← e]; rfl)
              have I9 := (HH.out.2.1.ext EX).chg (Chg.of_rowV hg9') (fun b hb hb2 => by have h1 := LTB.out b hb2; have h2 := Option.some.inj hb; omega)
              have S9 := (HH.out.2.2.1.ext EX).grown hg9' (fun e => hga.out (Option.some.inj e).symm)
              have T9 := (HH.out.2.2.2.1.under EX HH.out.2.2.2.1.lt).by_grown hg9' (fun e => gt (Option.some.inj e).symm)
              have B9 := (HH.out.2.2.2.2.1.trans (EX.mono lw8)).grown hg9' (by simp; omega) (fun z hz => by have := Option.some.inj hz; omega)
              have C9 := (HH.out.2.2.2.2.2.trans (EX.mono HH.out.2.2.2.2.2.size)).grown hg9' (Nat.le_trans HH.out.2.2.2.2.2.size EX.size) (fun z hz => by have := Option.some.inj hz; omega)
              have gna : Hid (g9 ≠ ga) := by
                rcases hat9 with h | h
                · have := Option.some.inj h
                  intro e; exact hga.out (this.trans e)
                · have := HH.out.2.2.1.1
                  intro e; simp at h; omega
              have LN9 : Hid ((nl ++ [v]).length = ln + 1) := by rw [Hid, List.length_append, hln.out]; rfl
              clear own9 hg9 hat9 O8 HH hg9' EX
              go_wp2_with fail
              exact ⟨⟨j + 1, g9, c9, ln + 1, nl ++ [v], by omega, gna, by go_num, rfl, LN9, ND, own9', I9, S9, T9, B9, C9⟩, by simp [intOf]; omega⟩
            · have CLF := Lib.hid (CL.out true hcv)
              have ND : Hid (nl = ddup (nearQ W H st.own (ar.take (j + 1)))) := by
                rw [Hid, NT.out]
                show nl = ddup (nearQ W H st.own (ar.take j) ++ [v])
                rw [DA.out, ← hnl.out, if_pos hcv]
              clear CL PF O8 I8 S8 T8 B8 C8 RL NL NT DA
              go_wp2_with (first
                | (at_lookup; refine wpList_lookF spotK _ (by rfl) _ _ _ false (by rfl) Try.underlying104 (zeroPt _) (by rfl) HMO.out (qx, qy) SOK.out (by rfl) ?_; rw [OV]; simp only [Option.getD_some, Bool.false_eq_true, if_false, ptV])
                | (go_at_call 75; refine CLF.out.mono ?_; rintro e w9 ⟨rfl, rfl⟩))
              exact ⟨⟨j + 1, gn, cn, ln, nl, by omega, hga, by go_num, rfl, hln, ND, HH.out.1, HH.out.2.1, HH.out.2.2.1, HH.out.2.2.2.1, HH.out.2.2.2.2.1, HH.out.2.2.2.2.2⟩, by simp [intOf]; omega⟩
        · obtain rfl : j = 4 := by omega
          have hnl2 : Hid (nl = ddup (near st ps)) := by
            have := hnl.out
            rw [List.take_of_length_le (by rw [AL.out]; exact Nat.le_refl _), NQ.out] at this
            exact this
          have LN4 : ln ≤ 4 := by
            have h1 := (ddup_facts (nearQ W H st.own (ar.take 4))).2.2
            rw [← hnl.out, hln.out] at h1
            have h2 : (nearQ W H st.own (ar.take 4)).length ≤ (ar.take 4).length := List.length_filterMap_le _ _
            have h3 : (ar.take 4).length ≤ 4 := by rw [List.length_take]; omega
            omega
          clear hnl NQ AL AB N0 hSA hga zga
          have gnw := hOn.lt gn rfl
          have FGN : Hid (¬ IVb (q + 1) (q + 2) og go w.heap.size (q + 3) st.n B P gn) := fun hb => by have := LTB.out gn hb; omega
          have FWB : Hid (¬ IVb (q + 1) (q + 2) og go w.heap.size (q + 3) st.n B P wb) := fun hb => by have := LTB.out wb hb; omega
          go_upto_if 61 with fail
          go_cut [4, 9] (fun ov nv wx => ∃ (st1 : VS) (og1 oc1 m1 gn1 cn1 ln1 : Nat) (B1 : Nat → Nat) (P1 : Nat → Value) (Lp1 : Nat → List Nat) (nl1 : List Nat), ov = .slice (some ⟨og1, 0, none⟩) m1 oc1 ∧ nv = .slice (some ⟨gn1, 0, none⟩) ln1 cn1 ∧ Hid (st1.n = m1 ∧ nl1.length = ln1 ∧ ln1 ≤ 4 ∧ JR ps g i st st1 nl1) ∧ IV w.heap.size W H p N go w.heap.size (q + 3) (q + 1) (q + 2) d og1 oc1 B1 P1 Lp1 st1 wx ∧ wx.ownsRow wb 65 1 (.slice (some ⟨gn1, 0, none⟩) ln1 cn1) ln1 (nl1.map fun v => ptV (B1 v)) ∧ Blk wx wb 39 #[.int .i64 (x : Int), .int .i64 (y : Int)] ∧ Below w.heap.size w wx ∧ Below w1.heap.size w1 wx ∧ Hid (¬ IVb (q + 1) (q + 2) og1 go w.heap.size (q + 3) st1.n B1 P1 gn1 ∧ ¬ IVb (q + 1) (q + 2) og1 go w.heap.size (q + 3) st1.n B1 P1 wb))
          case first =>
            by_cases h0 : ln = 0
            · have t0 : ((ln : Int) == 0) = true := by simp [h0]
              have NLN : Hid (nl = []) := List.length_eq_zero_iff.1 (by rw [hln.out]; exact h0)
              have NE : Hid (near st ps = []) := by
                rw [Hid, List.eq_nil_iff_forall_not_mem]
                intro v hv
                have := ((ddup_facts (near st ps)).2.1 v).2 hv
                rw [← hnl2.out, NLN.out] at this
                cases this
              have H0 := Lib.hid h0
              have k0 := hI.gbx.cell 0
              have k1 := hTb.cell 0
              have k2 := hTb.cell 1
              simp at k0 k1 k2
              have l0 := hI.gbx.lt
              have l1 := hTb.lt
              have HI := Lib.hid hI
              have HO8 := Lib.hid hOn
              have HT8 := Lib.hid hTb
              have HB8 := Lib.hid hB
              have HC8 := Lib.hid hB1
              have GQ2 : Hid (∀ V, Below wr.heap.size wr V → GreyAt V p A c rows) := fun V hV => GQ.out V (hB1.trans (hV.mono hB1.size))
              clear h0 hI hOn hTb hB hB1
              go_upto_region 17 with fail
              have lgw := (HO8.out.lt gn rfl).1
              have lww : w.heap.size ≤ wr.heap.size := HB8.out.size
              have FINX : Hid (∀ w8, Below wr.heap.size wr w8 → ∀ g9 c9 (w9 : World), w9.ownsRow wb 65 1 (.slice (some ⟨g9, 0, none⟩) (ln + 1) c9) (ln + 1) (nl.map (fun v => ptV (B v)) ++ [.pointer (some ⟨w8.heap.size, 0, none⟩)]) → World.grownBy ((w8.alloc (.cells #[.int .i64 g, .int .i64 ((i : Nat) : Int), .int .i64 (-1), .slice none 0 0] 68)).alloc (.cells #[.pointer (some ⟨w8.heap.size, 0, none⟩)] 65)) w9 (some gn) → (some gn = some g9 ∨ g9 = ((w8.alloc (.cells #[.int .i64 g, .int .i64 ((i : Nat) : Int), .int .i64 (-1), .slice none 0 0] 68)).alloc (.cells #[.pointer (some ⟨w8.heap.size, 0, none⟩)] 65)).heap.size) → ∃ b : Nat, (w9.ownsRow wb 65 1 (.slice (some ⟨g9, 0, none⟩) (ln + 1) c9) (ln + 1) [ptV b] ∧ IV w.heap.size W H p N go w.heap.size (q + 3) (q + 1) (q + 2) d og oc B P Lp st w9 ∧ Blk w9 wb 39 #[.int .i64 (x : Int), .int .i64 (y : Int)] ∧ Blk w9 b 68 #[.int .i64 g, .int .i64 ((i : Nat) : Int), .int .i64 (-1), .slice none 0 0] ∧ Below w.heap.size w w9 ∧ Below w1.heap.size w1 w9) ∧ Hid (g9 = gn ∨ g9 = b + 2) ∧ b + 2 ≤ w9.heap.size ∧ Hid (wb < b) ∧ Hid (gn < b)) := by
                intro w8 hb8 g9 c9 w9 own9 hg9 hat9
                have I8 := HI.out.ext hb8
                have O8 := own_ext hb8 HO8.out
                have T8 := HT8.out.under hb8 l1
                have B8 := HB8.out.trans (hb8.mono HB8.out.size)
                have C8 := HC8.out.trans (hb8.mono HC8.out.size)
                have zb := B8.size
                have hO8b := (O8.lt gn rfl)
                have hg9' : World.grownBy ((w8.alloc (.cells #[.int .i64 g, .int .i64 ((i : Nat) : Int), .int .i64 (-1), .slice none 0 0] 68)).alloc (.cells #[.pointer (some ⟨w8.heap.size, 0, none⟩)] 65)) w9 (some gn) := hg9
                have EX : Below w8.heap.size w8 ((w8.alloc (.cells #[.int .i64 g, .int .i64 ((i : Nat) : Int), .int .i64 (-1), .slice none 0 0] 68)).alloc (.cells #[.pointer (some ⟨w8.heap.size, 0, none⟩)] 65)) := Ext.more (Ext.more (Ext.refl _) _) _
                have own9' : w9.ownsRow wb 65 1 (.slice (some ⟨g9, 0, none⟩) (ln + 1) c9) (ln + 1) [ptV w8.heap.size] := by
                  rw [NLN.out] at own9
                  simpa [ptV] using own9
                have I9 := (I8.ext EX).chg (Chg.of_rowV hg9') (fun b hb hb2 => FGN.out (by rw [Option.some.inj hb]; exact hb2))
                have gt : gn ≠ wb := fun e => own_blk_ne O8 T8 (by decide) (by rw [← e]; rfl)
                have T9 := (T8.under EX T8.lt).by_grown hg9' (fun e => gt (Option.some.inj e).symm)
                have V9 := ((Blk.made w8 68 #[.int .i64 g, .int .i64 ((i : Nat) : Int), .int .i64 (-1), .slice none 0 0]).more (.cells #[.pointer (some ⟨w8.heap.size, 0, none⟩)] 65)).by_grown hg9' (fun e => by have := Option.some.inj e; omega)
                have B9 := (B8.trans (EX.mono zb)).grown hg9' (by simp; omega) (fun z hz => by have := Option.some.inj hz; omega)
                have C9 := (C8.trans (EX.mono C8.size)).grown hg9' (Nat.le_trans C8.size EX.size) (fun z hz => by have := Option.some.inj hz; omega)
                have G9 : Hid (g9 = gn ∨ g9 = w8.heap.size + 2) := by
                  rcases hat9 with h | h
                  · exact .inl (Option.some.inj h).symm
                  · refine .inr ?_; simpa using h
                have H9 := Lib.hid (And.intro own9' (And.intro I9 (And.intro T9 (And.intro V9 (And.intro B9 C9)))))
                have zz9 : w8.heap.size + 2 ≤ w9.heap.size := by have := hg9'.size; simp at this; omega
                obtain ⟨b, hb⟩ : ∃ b, b = w8.heap.size := ⟨_, rfl⟩
                rw [← hb] at H9 G9 zz9
                have bw8 : Hid (wb < b) := by rw [Hid, hb]; exact T8.lt
                have bgn : Hid (gn < b) := by rw [Hid, hb]; exact hO8b.2
                exact ⟨b, H9.out, G9, zz9, bw8, bgn⟩
              refine wp_region_held_tailM 6 (fun V => Below wr.heap.size wr V) (.slice (some ⟨gn, 0, none⟩) ln cn) (by kernel_rfl) (by kernel_rfl) (Ext.refl _).drew (fun _ _ _ h => h) (Or.inl ⟨by rfl, by intro w; go_simp⟩) ?_
              simp only [List.take_succ_cons, List.take_zero, List.drop_succ_cons, List.drop_zero, Act.put, List.setIfInBounds_toArray, List.set_cons_succ, List.set_cons_zero]
              have ne : Nonempty (HeldW (fun V => Below wr.heap.size wr V)) := ⟨⟨wr, Ext.refl _⟩⟩
              have v0 : ∀ i : HeldW (fun V => Below wr.heap.size wr V), i.w.cell? ⟨w.heap.size, 0, none⟩ = some (.pointer (some ⟨p, 0, none⟩)) := fun i => (i.h.cell (p := ⟨w.heap.size, 0, none⟩) l0).trans k0
              have v1 : ∀ i : HeldW (fun V => Below wr.heap.size wr V), i.w.cell? ⟨wb, 0, none⟩ = some (.int .i64 (x : Int)) := fun i => (i.h.cell (p := ⟨wb, 0, none⟩) l1).trans k1
              have v2 : ∀ i : HeldW (fun V => Below wr.heap.size wr V), i.w.cell? ⟨wb, 1, none⟩ = some (.int .i64 (y : Int)) := fun i => (i.h.cell (p := ⟨wb, 1, none⟩) l1).trans k2
              repeat (go_big_quiet_step (first | (go_at_call 41; exact Calls.above_of _ (GAT.out _ (GQ2.out _ (HeldW.h _)))) | (go_at_call 76; exact Calls.above_of _ (GPL.out _ (GQ2.out _ (HeldW.h _))))))
              refine wpQuiet_nil ?_
              intro w8 hw'
              obtain ⟨⟨_, hb8⟩, rfl⟩ := hw'
              clear ne v0 v1 v2 k0 k1 k2
              have z8 := hb8.size
              have O8 := own_ext hb8 HO8.out
              go_wp2_with (at_builtin; refine wpList_app valPT (by rfl) _ _ (by rfl) wb (.slice (some ⟨gn, 0, none⟩) ln cn) ln (nl.map fun v => ptV (B v)) (by rfl) ((O8.alloc _).alloc _) (w8.heap.size + 1) #[.pointer (some ⟨w8.heap.size, 0, none⟩)] (by rfl) (by have := heap_alloc_new (w8.alloc (.cells #[.int .i64 g, .int .i64 ((i : Nat) : Int), .int .i64 (-1), .slice none 0 0] 68)) (.cells #[.pointer (some ⟨w8.heap.size, 0, none⟩)] 65); simpa using this) rfl (by simp [Value.oneCell']) (by omega) (by simp; omega) ?_; intro g9 c9 w9 own9 hg9 hat9 hlt9)
              obtain ⟨b, H9', G9, zz9, bw8, bgn⟩ := FINX.out w8 hb8 g9 c9 w9 own9 hg9 hat9
              have H9 := Lib.hid H9'
              clear H9' own9 hg9 hat9 O8 hb8 z8 HI HO8 HT8 HB8 HC8 l0 l1 GQ2 FINX
              have r0 := H9.out.2.1.rbx.cell 0
              have r1 := H9.out.1.cellAt 0 (by omega)
              simp [ptV] at r0 r1
              have KW := Lib.hid (fun nq => ptKW (w9.drewN nq))
              have CEL := Lib.hid (H9.out.2.1.cel)
              have MR9 := Lib.hid (H9.out.2.1.mr)
              have l2 : (0 : Int) < ((ln + 1 : Nat) : Int) := by omega
              have g9w : wb ≤ g9 := by rcases G9.out with h | h <;> have := bw8.out <;> omega
              have lMR := LTB.out (q + 2) (.inr (.inl rfl))
              have log := LTB.out og (.inr (.inr (.inl rfl)))
              have lgo := LTB.out go (.inr (.inr (.inr (.inl rfl))))
              have APP : Hid (∀ nq V, World.grownBy (w9.drewN nq) V (some (q + 2)) → V.ownsRow w.heap.size 65 1 (.slice (some ⟨og, 0, none⟩) m oc) m ((List.range m).map fun v => ptV (B v)) ∧ V.ownsRow wb 65 1 (.slice (some ⟨g9, 0, none⟩) (ln + 1) c9) (ln + 1) [ptV b] ∧ V.cell? ⟨g9, 0, none⟩ = some (.pointer (some ⟨b, 0, none⟩)) ∧ w9.heap.size ≤ V.heap.size ∧ w.heap.size ≤ V.heap.size) := fun nq V hV => by
                have N10 : V.ownsRow wb 65 1 (.slice (some ⟨g9, 0, none⟩) (ln + 1) c9) (ln + 1) [ptV b] := World.ownsRow.kept (w := w9.drewN nq) H9.out.1 hV (.inr fun e => by have h1 : g9 = q + 2 := Option.some.inj e; omega)
                have r2 := N10.cellAt 0 (by omega)
                have O10 : V.ownsRow w.heap.size 65 1 (.slice (some ⟨og, 0, none⟩) st.n oc) st.n ((List.range st.n).map fun v => ptV (B v)) := World.ownsRow.kept (w := w9.drewN nq) H9.out.2.1.out hV (.inr fun e => H9.out.2.1.kinds.2.2.1.2.1 (Option.some.inj e))
                rw [hm.out] at O10
                have z10 : w9.heap.size ≤ V.heap.size := hV.size
                exact ⟨O10, N10, by simpa [ptV] using r2, z10, Nat.le_trans H9.out.2.2.2.2.1.size z10⟩
              have mN2 : m ≤ N := by rw [← hm.out]; exact HNN.out
              go_upto_region 18 with fail
              refine wp_region_quiet_tail 6 (by kernel_rfl) (by kernel_rfl) ?_
              simp only [List.take_succ_cons, List.take_zero, List.drop_succ_cons, List.drop_zero]
              repeat (go_big_quiet_step (fail))
              refine wpQuiet_nil ?_
              intro _ hw'
              obtain ⟨nq, hw''⟩ := hw'
              subst hw''
              go_wp2_with (first
                | (at_mapUpdate; refine wpList_putW (KW.out nq) (fun a x h => CEL.out a x h) (by rfl) _ _ _ _ (by rfl) Try.underlying105 (by rfl) (MR9.out.drewN nq) b ⟨_, _, H9.out.2.2.2.1⟩ trivial (by rfl) ?_; intro w10 hm10 hg10 hz10; clear hz10; obtain ⟨O10, N10, r2, z10, lw10⟩ := APP.out nq w10 hg10)
                | (at_builtin; refine wpList_app valPT (by rfl) _ _ (by rfl) w.heap.size (.slice (some ⟨og, 0, none⟩) m oc) m ((List.range m).map fun v => ptV (B v)) (by rfl) (O10.alloc _) w10.heap.size #[.pointer (some ⟨b, 0, none⟩)] (by rfl) (by exact heap_alloc_new w10 _) rfl (by simp [Value.oneCell']) (by omega) (by simp; omega) ?_; intro g11 c11 w11 own11 hg11 hat11 hlt11))
              have HG10 : Hid (World.grownBy (w9.drewN nq) w10 (some (q + 2))) := hg10
              have HM10 : Hid (MapF ptV (fun _ => True) w10 (q + 2) (putF (rkM B st.n) b (.int .i64 ((m : Nat) : Int)))) := hm10
              have HN10 := Lib.hid N10
              clear hm10 hg10 N10
              have hg12 : World.grownBy (w10.alloc (.cells #[.pointer (some ⟨b, 0, none⟩)] 65)) w11 (some og) := hg11
              have EX2 := Ext.more (Ext.refl w10) (.cells #[.pointer (some ⟨b, 0, none⟩)] 65)
              have IB := (H9.out.2.1.ext (Ext.drawN (Ext.refl w9) nq)).born (w2 := w10) (w3 := w10.alloc (.cells #[.pointer (some ⟨b, 0, none⟩)] 65)) (w4 := w11) (b := b) (g := g11) (cap := c11) (i := i) (L := g) (by have := wbo.1; have := bw8.out; omega) H9.out.2.2.2.1
                (fun v hv e => by have := LTB.out (B v) (.inr (.inr (.inr (.inr (.inr (.inr ⟨v, hv, .inl rfl⟩)))))); have := bw8.out; omega) (fun e => by have := bw8.out; omega) (fun q v h => (HOK.out.1.own q v h).1)
                (by have := HM10.out; rw [← hm.out] at this; exact this) HG10.out EX2 (by rw [hm.out]; exact own11) hg12 hat11
              have N11 := (own_ext EX2 HN10.out).kept hg12 (.inr fun e => by have h1 : g9 = og := Option.some.inj e; omega)
              have T11 := ((Blk.by_grown (w := w9.drewN nq) H9.out.2.2.1 HG10.out (fun e => by have := Option.some.inj e; omega)).under EX2 (by have := HG10.out.size; have h2 : (w9.drewN nq).heap.size = w9.heap.size := rfl; have h3 := H9.out.2.2.1.lt; omega)).by_grown hg12 (fun e => by have := Option.some.inj e; omega)
              have wq : w.heap.size ≤ q + 2 ∧ w1.heap.size ≤ q + 2 ∧ w.heap.size ≤ og ∧ w1.heap.size ≤ og := by
                have h1 := H9.out.2.1.lo
                have h2 := H9.out.2.1.kinds.2.2.1.2.2.2.1
                have h3 : w1.heap.size ≤ q := gq
                exact ⟨h1.2.1, by omega, h1.2.2.1, by omega⟩
              have B10 : Below w.heap.size w w10 := World.grownBy.belowV HG10.out (Ext.drawN H9.out.2.2.2.2.1 nq) wq.1 H9.out.2.2.2.2.1.size
              have C10 : Below w1.heap.size w1 w10 := World.grownBy.belowV HG10.out (Ext.drawN H9.out.2.2.2.2.2 nq) wq.2.1 H9.out.2.2.2.2.2.size
              have B11 : Below w.heap.size w w11 := World.grownBy.belowV hg12 (B10.trans (EX2.mono lw10)) wq.2.2.1 (Nat.le_trans lw10 EX2.size)
              have C11 : Below w1.heap.size w1 w11 := World.grownBy.belowV hg12 (C10.trans (EX2.mono C10.size)) wq.2.2.2 (Nat.le_trans C10.size EX2.size)
              have g11n : Hid (g11 = og ∨ w9.heap.size ≤ g11) := by
                rcases hat11 with h | h
                · exact .inl (Option.some.inj h).symm
                · refine .inr ?_
                  have h2 : (w9.drewN nq).heap.size = w9.heap.size := rfl
                  have := HG10.out.size
                  simp at h; omega
              have FOR : Hid (∀ z, wb ≤ z → z ≠ b → z < w9.heap.size → ¬ IVb (q + 1) (q + 2) g11 go w.heap.size (q + 3) (st.n + 1) (updF B st.n b) (updF P st.n (.slice none 0 0)) z) := fun z h1 h2 h3 hb => by
                rcases hb with e | e | e | e | e | e | ⟨v, hv, e⟩
                · have := LTB.out (q + 1) (.inl rfl); omega
                · omega
                · rcases g11n.out with h | h <;> omega
                · omega
                · have := LTB.out w.heap.size (.inr (.inr (.inr (.inr (.inl rfl))))); omega
                · have := LTB.out (q + 3) (.inr (.inr (.inr (.inr (.inr (.inl rfl)))))); omega
                · by_cases ev : v = st.n
                  · subst ev
                    rw [updF_self, updF_self] at e
                    rcases e with e | e
                    · exact h2 e.symm
                    · cases e
                  · rw [updF_ne _ _ ev, updF_ne _ _ ev] at e
                    have := LTB.out z (.inr (.inr (.inr (.inr (.inr (.inr ⟨v, by omega, e⟩))))))
                    omega
              have g9b : g9 ≠ b ∧ g9 < w9.heap.size := ⟨by rcases G9.out with h | h <;> have := bgn.out <;> omega, (H9.out.1.lt g9 rfl).2⟩
              have RES : Hid (∃ (st1 : VS) (og1 oc1 m1 gn1 cn1 ln1 : Nat) (B1 : Nat → Nat) (P1 : Nat → Value) (Lp1 : Nat → List Nat) (nl1 : List Nat), Value.slice (some ⟨g11, 0, none⟩) (m + 1) c11 = .slice (some ⟨og1, 0, none⟩) m1 oc1 ∧ Value.slice (some ⟨g9, 0, none⟩) (ln + 1) c9 = .slice (some ⟨gn1, 0, none⟩) ln1 cn1 ∧ Hid (st1.n = m1 ∧ nl1.length = ln1 ∧ ln1 ≤ 4 ∧ JR ps g i st st1 nl1) ∧ IV w.heap.size W H p N go w.heap.size (q + 3) (q + 1) (q + 2) d og1 oc1 B1 P1 Lp1 st1 w11 ∧ w11.ownsRow wb 65 1 (.slice (some ⟨gn1, 0, none⟩) ln1 cn1) ln1 (nl1.map fun v => ptV (B1 v)) ∧ Blk w11 wb 39 #[.int .i64 (x : Int), .int .i64 (y : Int)] ∧ Below w.heap.size w w11 ∧ Below w1.heap.size w1 w11 ∧ Hid (¬ IVb (q + 1) (q + 2) og1 go w.heap.size (q + 3) st1.n B1 P1 gn1 ∧ ¬ IVb (q + 1) (q + 2) og1 go w.heap.size (q + 3) st1.n B1 P1 wb)) := by
                refine ⟨grow g i st, g11, c11, m + 1, g9, c9, ln + 1, _, _, _, [st.n], rfl, rfl, ⟨?_, ?_, by have := H0.out; omega, .inl ⟨NE.out, rfl, rfl⟩⟩, IB, ?_, T11, B11, C11, FOR.out g9 g9w g9b.1 g9b.2, FOR.out wb (Nat.le_refl _) (by have := bw8.out; omega) H9.out.2.2.1.lt⟩
                · show st.n + 1 = m + 1; rw [hm.out]
                · have := H0.out; simp; omega
                · simpa [updF_self] using N11
              clear IB N11 T11 B11 C11 B10 C10 FOR own11 hg11 hg12 hat11 EX2 O10 HN10 HG10 HM10 H9 CEL MR9 KW
              go_wp2_with fail
              go_meet
              exact RES.out
            · have t0 : ((ln : Int) == 0) = false := by rw [beq_eq_false_iff_ne]; omega
              have NE : Hid (near st ps ≠ []) := fun e => by
                have := hnl2.out
                rw [e] at this
                have h2 := hln.out
                rw [this] at h2
                exact h0 h2.symm
              have HH := Lib.hid (And.intro hI (And.intro hOn (And.intro hTb (And.intro hB hB1))))
              clear hI hOn hTb hB hB1 h0
              go_wp2_with fail
              go_meet
              exact ⟨st, og, oc, m, gn, cn, ln, B, P, Lp, nl, rfl, rfl, ⟨hm.out, hln.out, LN4, .inr ⟨NE.out, rfl, hnl2.out⟩⟩, HH.out.1, HH.out.2.1, HH.out.2.2.1, HH.out.2.2.2.1, HH.out.2.2.2.2, FGN.out, FWB.out⟩
          case rest =>
            clear hI hOn hTb hB hB1 FGN FWB LTB hln hnl2 gnw
            obtain ⟨st1, og1, oc1, m1, gn1, cn1, ln1, B1, P1, Lp1, nl1, rfl, rfl, HJ, hI, hOn, hTb, hB, hB1, hF⟩ := hcut
            obtain ⟨hm1, hl1, ln14, hJ⟩ := HJ.out
            obtain ⟨ok1, own1, ne1, nd1, al1, n1, fin1⟩ := hJ.facts HOK.out.1 HOK.out.2
            have PF := own_ptF hOn hl1
            have GD : ∀ i, (h : i < nl1.length) → nl1.getD i 0 = nl1[i] := fun i h => by rw [List.getD_eq_getElem?_getD, List.getElem?_eq_getElem h]; rfl
            obtain ⟨pl, hpl⟩ := exists_pl (fun i => nl1.getD i 0) ln1 (fun i j hi hj e => by
              replace e : nl1.getD i 0 = nl1.getD j 0 := e
              rw [GD i (by omega), GD j (by omega)] at e
              exact nodup_at nd1 _ _ e)
            have CK : CmpP gn1 B1 78 #[.pointer (some ⟨q + 3, 0, none⟩)] (fun V => IV w.heap.size W H p N go w.heap.size (q + 3) (q + 1) (q + 2) d og1 oc1 B1 P1 Lp1 st1 V) (fun v => v < st1.n) (fun x y => cmI x y) (fun v => ((v : Nat) : Int)) :=
              { ent := enters_val2
                keep := fun V V' h1 h2 => h1.chg h2 (fun b hb hb2 => hF.out.1 (by rw [hb] at hb2; exact hb2))
                lt := fun x y _ _ => cmI_lt _ _
                call := fun V x y hV hx hy => val2_any (q + 3) (q + 2) B1 st1.n x y V hV.inj (by have := hV.rbx.cell 0; simpa using this) hV.mr (fun v hv => ⟨_, _, hV.val v hv⟩) hx hy }
            have SRT := Lib.hid (sortP_any (pl := pl) B1 gn1 ln1 cn1 (fun i => nl1.getD i 0) wc CK PF hI (fun i hi => by
              show nl1.getD i 0 < st1.n
              rw [GD i (by omega)]
              exact (al1 _ (List.getElem_mem _)).1) hpl (by omega))
            have gt : gn1 ≠ wb := fun e => own_blk_ne hOn hTb (by decide) (by rw [← e]; rfl)
            have LN1 : 0 < ln1 := by rw [← hl1]; exact List.length_pos_iff.2 ne1
            have HSF := Lib.hid (fun d' (a : Stb.Mv 0 ln1 (fun i => nl1.getD i 0) d') (b : Stb.Srt (fun v => ((v : Nat) : Int)) pl 0 ln1 d') => srt_facts hl1 a b)
            have HFIN := Lib.hid fin1
            have HOK1 := Lib.hid (And.intro ok1 own1)
            have HAL := Lib.hid al1
            have HI := Lib.hid hI
            have HTb := Lib.hid hTb
            have HBB := Lib.hid (And.intro hB hB1)
            have gnl := hOn.lt gn1 rfl
            have CN : ln1 ≤ cn1 := by
              rcases hOn.2 with ⟨h1, h2⟩ | ⟨g', cap, cur, h1, _, _, h2, _⟩
              · omega
              · simp only [Value.slice.injEq] at h1
                omega
            have HM1 := Lib.hid hm1
            have JOW := Lib.hid (fun (a : 1 < ln1) v (hv : v ∈ nl1) => hJ.own HOK.out.1 (by rw [hl1]; exact a) hv)
            have lwc : w1.heap.size ≤ wc.heap.size ∧ w.heap.size ≤ wc.heap.size := ⟨hB1.size, hB.size⟩
            have HL1 := Lib.hid hl1
            clear hm1 hl1 hJ HJ ok1 own1 ne1 nd1 al1 fin1 PF GD hpl CK hI hOn hTb hB hB1
            have n0 : (0 : Int) < (ln1 : Int) := by omega
            go_upto_region 22 with (go_at_call 77; refine SRT.out.mono ?_; rintro e w7 ⟨rfl, ⟨d', hP7, hmv7, hsr7⟩, hC7⟩; have c0 := hP7.cell 0 LN1; obtain ⟨s, hs0⟩ : ∃ s, d' 0 = s := ⟨_, rfl⟩; rw [hs0] at c0; have HS1 := Lib.hid hs0; clear hs0)
            obtain ⟨f1, f2, f3⟩ := HSF.out d' hmv7 hsr7
            have I7 := HI.out.chg hC7 (fun b hb hb2 => hF.out.1 (by rw [hb] at hb2; exact hb2))
            have Tb7 := hC7.blk HTb.out (fun e => gt e.symm)
            have B7 := HBB.out.1.trans (hC7.below (fun b hb => by rw [hb]; exact Nat.le_trans wbo.1 gnl.1) lwc.2)
            have C7 := HBB.out.2.trans (hC7.below (fun b hb => by rw [hb]; exact Nat.le_trans wbo.2 gnl.1) lwc.1)
            have hs : s = d' 0 := HS1.out.symm
            have SN : Hid (s ∈ nl1) := by rw [Hid, hs]; exact f2 0 LN1
            have FIN2 : Hid (stepV ps g i st = fin i s (Vl.part (joinD d' (ln1 - 1)) s g st1)) := HFIN.out s _ SN.out (fun v hv => by
                obtain ⟨t, ht, e⟩ := f3 v hv
                by_cases h0 : t = 0
                · rw [hs, ← e, h0]; exact Nat.le_refl _
                · have := f1 0 t (by omega) ht
                  rw [hs, ← e]; omega) (fun v => by
                rw [joinD_iff]
                constructor
                · rintro ⟨t, ht, e⟩
                  rw [← e, hs]
                  exact ⟨f2 _ (by omega), by have := f1 0 (t + 1) (by omega) (by omega); omega⟩
                · rintro ⟨hv, hne⟩
                  obtain ⟨t, ht, e⟩ := f3 v hv
                  refine ⟨t - 1, ?_, ?_⟩
                  · by_cases h0 : t = 0
                    · rw [h0] at e; exact absurd (by rw [← e, hs]) hne
                    · omega
                  · by_cases h0 : t = 0
                    · rw [h0] at e; exact absurd (by rw [← e, hs]) hne
                    · rw [show t - 1 + 1 = t by omega]; exact e)
            have F1 := Lib.hid f1
            have F2 := Lib.hid f2
            have HP7 := Lib.hid hP7
            have HH7 := Lib.hid (And.intro I7 (And.intro Tb7 (And.intro B7 C7)))
            have HS0 := Lib.hid hs
            clear f1 f2 f3 hmv7 hsr7 hC7 I7 Tb7 B7 C7 hs hP7 HI HTb HBB HSF HFIN SRT
            go_cut [92, 93, 94] (fun a b z wx => ∃ (A : Option Addr) (cz : Nat), a = .slice A (ln1 - 1) cz ∧ b = .int .i64 ((ln1 - 1 : Nat) : Int) ∧ z = .int .i64 0 ∧ Hid (1 < ln1 → A = some ⟨gn1, 1, none⟩) ∧ wx = w7)
            case first =>
              by_cases h1 : cn1 = 1
              · go_wp2_with fail
                go_meet
                exact ⟨_, _, rfl, by go_num, rfl, fun h => by omega, rfl⟩
              · go_wp2_with fail
                go_meet
                exact ⟨_, _, rfl, by go_num, rfl, fun h => rfl, rfl⟩
            case rest =>
              obtain ⟨A9, cz, rfl, rfl, rfl, hA9, hw7⟩ := hcut
              subst hw7
              have S0 : Hid (IV w.heap.size W H p N go w.heap.size (q + 3) (q + 1) (q + 2) d og1 oc1 B1 P1 Lp1 (Vl.part (joinD d' 0) s g st1) wc) := by
                rw [Hid, joinD_zero, part_none]; exact HH7.out.1
              have SD : Hid (s < st1.n ∧ st1.dies s = -1) := HAL.out s SN.out
              have JS : Hid (∀ j, j ≤ ln1 - 1 → joinD d' j s = false) := fun j hj => by
                cases hc : joinD d' j s with
                | false => rfl
                | true =>
                  obtain ⟨t, ht, e⟩ := joinD_iff.1 hc
                  have := F1.out 0 (t + 1) (by omega) (by omega)
                  rw [HS0.out] at e
                  omega
              have OKJ : Hid (∀ j, j ≤ ln1 - 1 → Ok N (Vl.part (joinD d' j) s g st1)) := fun j hj => HOK1.out.1.part SD.out.1 SD.out.2 (JS.out j hj) g0
              have HF0 := hF
              have HDW : Hid (∀ j, j + 1 < ln1 → ∃ q, st1.own q = some (d' (j + 1))) := fun j hj => JOW.out (by omega) _ (F2.out (j + 1) hj)
              have HDV : Hid (∀ j, j + 1 < ln1 → d' (j + 1) < st1.n ∧ st1.dies (d' (j + 1)) = -1 ∧ d' (j + 1) ≠ s ∧ joinD d' j (d' (j + 1)) = false) := fun j hj => by
                have h1 := HAL.out _ (F2.out (j + 1) hj)
                have h2 := F1.out 0 (j + 1) (by omega) hj
                refine ⟨h1.1, h1.2, by rw [HS0.out]; omega, ?_⟩
                cases hc : joinD d' j (d' (j + 1)) with
                | false => rfl
                | true =>
                  obtain ⟨t, ht, e⟩ := joinD_iff.1 hc
                  have := F1.out (t + 1) (j + 1) (by omega) hj
                  omega
              clear hF HAL F1 F2 HS0 n0 HS1 JOW
              obtain ⟨T0, B0, C0⟩ := HH7.out.2
              go_wp2_with fail
              go_loopw [94] (fun jv wx => ∃ (j : Nat) (P1 : Nat → Value) (Lp1 : Nat → List Nat), j ≤ ln1 - 1 ∧ jv = .int .i64 j ∧ IV w.heap.size W H p N go w.heap.size (q + 3) (q + 1) (q + 2) d og1 oc1 B1 P1 Lp1 (Vl.part (joinD d' j) s g st1) wx ∧ PtF wx gn1 ln1 B1 d' ∧ Blk wx wb 39 #[.int .i64 (x : Int), .int .i64 (y : Int)] ∧ Below w.heap.size w wx ∧ Below w1.heap.size w1 wx ∧ Hid (¬ IVb (q + 1) (q + 2) og1 go w.heap.size (q + 3) st1.n B1 P1 gn1 ∧ ¬ IVb (q + 1) (q + 2) og1 go w.heap.size (q + 3) st1.n B1 P1 wb)) (fun jv _ => ln1 - 1 - (intOf jv).toNat)
              case atStart => exact ⟨0, P1, Lp1, Nat.zero_le _, rfl, S0.out, HP7.out, T0, B0, C0, HF0.out⟩
              case round =>
                obtain ⟨j, P2, Lp2, hj, rfl, hI, hP, hTb, hB, hB1, hF⟩ := hrel
                clear S0 HP7 T0 B0 C0 HF0
                by_cases hjl : j < ln1 - 1
                · obtain rfl : A9 = some ⟨gn1, 1, none⟩ := hA9.out (by omega)
                  have c0 := hP.cell (j + 1) (by omega)
                  rw [Nat.add_comm j 1] at c0
                  obtain ⟨v1, v2, v3, v4⟩ := HDV.out j (by omega)
                  rw [Nat.add_comm j 1] at v1 v2 v3 v4
                  obtain ⟨v, hv⟩ : ∃ v, d' (1 + j) = v := ⟨_, rfl⟩
                  rw [hv] at c0 v1 v2 v3 v4
                  have OK5 := Lib.hid (OKJ.out j (by omega))
                  have MORE : Hid (Vl.part (joinD d' (j + 1)) s g st1 = { Vl.part (joinD d' j) s g st1 with dies := fun u => if u = v then g else (Vl.part (joinD d' j) s g st1).dies u, own := fun q => if (Vl.part (joinD d' j) s g st1).own q = some v then some s else (Vl.part (joinD d' j) s g st1).own q, mem := fun u q => if u = s then (Vl.part (joinD d' j) s g st1).mem s q || (Vl.part (joinD d' j) s g st1).mem v q else (Vl.part (joinD d' j) s g st1).mem u q }) := by
                    have h1 := part_more (N := N) HOK1.out.1 (M := joinD d' j) (s := s) (v := v) (L := g) v3 v4 v1 v2
                    rw [Hid, joinD_succ, show j + 1 = 1 + j by omega, hv]
                    exact h1
                  have VD : Hid ((Vl.part (joinD d' j) s g st1).dies v = -1) := by rw [Hid]; simp [Vl.part, v4, v2]
                  have SDD : Hid ((Vl.part (joinD d' j) s g st1).dies s = -1) := by rw [Hid]; simp [Vl.part, JS.out j (by omega), SD.out.2]
                  have SBn : Hid ((Vl.part (joinD d' j) s g st1).n = st1.n) := rfl
                  have VQ : Hid (∃ q, (Vl.part (joinD d' j) s g st1).own q = some v) := by
                    obtain ⟨z, hz⟩ := HDW.out j (by omega)
                    rw [show j + 1 = 1 + j by omega, hv] at hz
                    exact ⟨z, by simp [Vl.part, hz, v4]⟩
                  generalize Vl.part (joinD d' j) s g st1 = SB at *
                  have HV := Lib.hid hv
                  clear hv
                  have vn : v < SB.n := by rw [SBn.out]; exact v1
                  have sn : s < SB.n := by rw [SBn.out]; exact SD.out.1
                  have MV := Lib.hid (OK5.out.mem v vn VD.out)
                  have MS := Lib.hid (OK5.out.mem s sn SDD.out)
                  have k0 := hI.gbx.cell 0
                  have k1 := hTb.cell 0
                  have k2 := hTb.cell 1
                  simp at k0 k1 k2
                  have i2 : (0 : Int) ≤ (j : Int) := by omega
                  have i3 : (j : Int) < ((ln1 - 1 : Nat) : Int) := by omega
                  have wj : IntKind.i64.wrap ((j : Int) + 1) = ((j + 1 : Nat) : Int) := by rw [IntWalk.i64_in _ (by omega)]; simp
                  have GATW := Lib.hid (GAT.out wr (GQ.out wr hB1))
                  have HI := Lib.hid hI
                  have HREST := Lib.hid (And.intro hP (And.intro hTb (And.intro hB hB1)))
                  have ST8 : Hid (∀ V, Below wr.heap.size wr V → V.cell? ⟨B1 v, 2, none⟩ = some (.int .i64 (SB.dies v)) ∧ V.frozen? ⟨B1 v, 2, none⟩ = false) := fun V hV => by
                    have h1 := (hI.ext hV).val v vn
                    have h2 := h1.cell 2
                    exact ⟨by simpa using h2, h1.free 2⟩
                  clear hI hP hTb hB hB1 v2 v4
                  go_upto_region 26 with (go_at_call 41; refine GATW.out.mono ?_; rintro e w8 ⟨rfl, hb8⟩; obtain ⟨m0, m1'⟩ := ST8.out w8 hb8)
                  obtain ⟨w9, hw9⟩ : ∃ w9, w9 = w8.setCell ⟨B1 v, 2, none⟩ (.int .i64 g) := ⟨_, rfl⟩
                  rw [← hw9]
                  have I9 : IV w.heap.size W H p N go w.heap.size (q + 3) (q + 1) (q + 2) d og1 oc1 B1 P2 Lp2 { SB with dies := fun u => if u = v then g else SB.dies u } w9 := by
                    rw [hw9]; exact (HI.out.ext hb8).dies vn g
                  have c9 : Chg (fun b => b = B1 v) w8 w9 := by rw [hw9]; exact Chg.of_setV w8 (B1 v) 2 _
                  have bvw : w.heap.size ≤ B1 v ∧ B1 v ≠ gn1 ∧ B1 v ≠ wb := ⟨(HI.out.lo).2.2.2.2.2.2 v vn, fun e => hF.out.1 (.inr (.inr (.inr (.inr (.inr (.inr ⟨v, v1, .inl e⟩)))))), fun e => hF.out.2 (.inr (.inr (.inr (.inr (.inr (.inr ⟨v, v1, .inl e⟩))))))⟩
                  have FRM : Hid (∀ V, (Chg (fun b => b = B1 v ∨ b = B1 s ∨ b = q + 1 ∨ (P2 s).ownBlock = some b) w8 V) → PtF V gn1 ln1 B1 d' ∧ Blk V wb 39 #[.int .i64 (x : Int), .int .i64 (y : Int)] ∧ Below w.heap.size w V ∧ Below w1.heap.size w1 V) := by
                    intro V hV
                    have h0 := HI.out
                    have lo := h0.lo
                    have kd := h0.kinds
                    have e1 : w1.heap.size ≤ B1 v := by have := (kd.1 v vn).2.2.2.2.1; have := lo.2.2.2.2.2.2 v vn; omega
                    have e2 : w1.heap.size ≤ B1 s := by have := (kd.1 s sn).2.2.2.2.1; have := lo.2.2.2.2.2.2 s sn; omega
                    have e3 : ∀ b, (P2 s).ownBlock = some b → w1.heap.size ≤ b := fun b hb => by have := (kd.2.1 s sn b hb).2.2.2.2.1; have := ((h0.set s sn).lt b hb).1; omega
                    have fg : ∀ b, (b = B1 v ∨ b = B1 s ∨ b = q + 1 ∨ (P2 s).ownBlock = some b) → IVb (q + 1) (q + 2) og1 go w.heap.size (q + 3) st1.n B1 P2 b := fun b hb => by
                      rcases hb with rfl | rfl | rfl | hb
                      · exact .inr (.inr (.inr (.inr (.inr (.inr ⟨v, v1, .inl rfl⟩)))))
                      · exact .inr (.inr (.inr (.inr (.inr (.inr ⟨s, SD.out.1, .inl rfl⟩)))))
                      · exact .inl rfl
                      · exact .inr (.inr (.inr (.inr (.inr (.inr ⟨s, SD.out.1, .inr hb⟩)))))
                    have bel : ∀ b, (b = B1 v ∨ b = B1 s ∨ b = q + 1 ∨ (P2 s).ownBlock = some b) → w1.heap.size ≤ b := fun b hb => by
                      rcases hb with rfl | rfl | rfl | hb
                      · exact e1
                      · exact e2
                      · omega
                      · exact e3 b hb
                    have hP8 := HREST.out.1.ext hb8
                    refine ⟨⟨Nat.lt_of_lt_of_le hP8.lt hV.size, fun i hi => (hV.cell (p := ⟨gn1, i, none⟩) hP8.lt (fun hb => hF.out.1 (fg _ hb))).trans (hP8.cell i hi), fun k => (World.frozen?_of_block (a := ⟨gn1, k, none⟩) (hV.block gn1 hP8.lt (fun hb => hF.out.1 (fg _ hb)))).trans (hP8.free k)⟩, hV.blk (HREST.out.2.1.under hb8 HREST.out.2.1.lt) (fun hb => hF.out.2 (fg _ hb)), ?_, ?_⟩
                    · have h8 := HREST.out.2.2.1.trans (hb8.mono HREST.out.2.2.1.size)
                      exact h8.trans (hV.below (fun b hb => by have := bel b hb; omega) h8.size)
                    · have h8 := HREST.out.2.2.2.trans (hb8.mono HREST.out.2.2.2.size)
                      exact h8.trans (hV.below bel h8.size)
                  have C9 : Hid (Chg (fun b => b = B1 v ∨ b = B1 s ∨ b = q + 1 ∨ (P2 s).ownBlock = some b) w8 w9) := c9.mono (fun b hb => .inl hb)
                  have zz8 : wr.heap.size ≤ w8.heap.size := hb8.size
                  have HI9 := Lib.hid I9
                  obtain ⟨bd1, bd2, bs2, VL0⟩ : (∀ q ∈ Lp2 v, q < N) ∧ (Lp2 v).length ≤ N ∧ (Lp2 s).length ≤ N ∧ 0 < (Lp2 v).length := by
                    have a1 : ∀ u, u < SB.n → ∀ q ∈ Lp2 u, q < N := fun u hu q hq => OK5.out.lt u q hu (((I9.mem u hu).2 q).1 hq)
                    refine ⟨a1 v vn, nodup_le (I9.mem v vn).1 (a1 v vn), nodup_le (I9.mem s sn).1 (a1 s sn), ?_⟩
                    obtain ⟨z, hz⟩ := VQ.out
                    exact List.length_pos_of_mem (((I9.mem v vn).2 z).2 ((MV.out z).2 hz))
                  obtain ⟨pv, cv, ePv⟩ : ∃ pv cv, P2 v = .slice (some ⟨pv, 0, none⟩) (Lp2 v).length cv := by
                    rcases (I9.set v vn).2 with ⟨_, h0⟩ | ⟨g', cap, cur, h1, _⟩
                    · omega
                    · exact ⟨g', cap, h1⟩
                  have e1 := (I9.val s sn).cell 3
                  have e2 := (I9.val v vn).cell 3
                  have e3 := (I9.val s sn).free 3
                  simp at e1 e2
                  rw [ePv] at e2
                  have RS := I9.set s sn
                  have RV := I9.set v vn
                  rw [ePv] at RV
                  have RVC := Lib.hid (RV.cells (g := pv) rfl)
                  have lw9 : w.heap.size ≤ w9.heap.size := (FRM.out w9 C9.out).2.2.1.size
                  have JN : Hid (∀ g9 c9 (wA : World), wA.ownsRow w.heap.size 39 2 (.slice (some ⟨g9, 0, none⟩) ((Lp2 s).length + (Lp2 v).length) c9) ((Lp2 s).length + (Lp2 v).length) (spL ((Lp2 s ++ Lp2 v).map (spt W))) → w9.drew.grownBy wA (P2 s).ownBlock → ((P2 s).ownBlock = some g9 ∨ g9 = w9.drew.heap.size) →
                      wA.cell? ⟨B1 s, 3, none⟩ = some (P2 s) ∧ wA.frozen? ⟨B1 s, 3, none⟩ = false ∧ ∀ V, V = wA.setCell ⟨B1 s, 3, none⟩ (.slice (some ⟨g9, 0, none⟩) ((Lp2 s).length + (Lp2 v).length) c9) →
                      IV w.heap.size W H p N go w.heap.size (q + 3) (q + 1) (q + 2) d og1 oc1 B1 (updF P2 s (.slice (some ⟨g9, 0, none⟩) ((Lp2 s).length + (Lp2 v).length) c9)) (updF Lp2 s (Lp2 s ++ Lp2 v)) { SB with dies := fun u => if u = v then g else SB.dies u, own := fun q => if q ∈ (Lp2 v).take 0 then some s else SB.own q, mem := fun u q => if u = s then SB.mem s q || SB.mem v q else SB.mem u q } V ∧ Chg (fun b => b = B1 v ∨ b = B1 s ∨ b = q + 1 ∨ (P2 s).ownBlock = some b) w8 V ∧
                      Hid (¬ IVb (q + 1) (q + 2) og1 go w.heap.size (q + 3) st1.n B1 (updF P2 s (.slice (some ⟨g9, 0, none⟩) ((Lp2 s).length + (Lp2 v).length) c9)) gn1 ∧ ¬ IVb (q + 1) (q + 2) og1 go w.heap.size (q + 3) st1.n B1 (updF P2 s (.slice (some ⟨g9, 0, none⟩) ((Lp2 s).length + (Lp2 v).length) c9)) wb) ∧ w9.heap.size ≤ V.heap.size) := by
                    intro g9 c9 wA ho9 hg9 hat9
                    have hId : IV w.heap.size W H p N go w.heap.size (q + 3) (q + 1) (q + 2) d og1 oc1 B1 P2 Lp2 { SB with dies := fun u => if u = v then g else SB.dies u } w9.drew := HI9.out.ext (Ext.refl w9).drew
                    have kd := hId.kinds
                    have bB := (hId.val s sn).by_grown hg9 (fun e => (kd.1 s sn).2.2.2.2.2.2 s sn e.symm)
                    refine ⟨by have := bB.cell 3; simpa using this, bB.free 3, ?_⟩
                    rintro V rfl
                    have MVQ : ∀ z, z ∈ Lp2 v ↔ SB.own z = some v := fun z => ((hId.mem v vn).2 z).trans (MV.out z)
                    have MSQ : ∀ z, z ∈ Lp2 s ↔ SB.own z = some s := fun z => ((hId.mem s sn).2 z).trans (MS.out z)
                    have J := hId.join sn (l := Lp2 v) (g := g9) (M := (Lp2 s).length + (Lp2 v).length) (cap := c9) (by simp) ho9 hg9 hat9 (fun u q => if u = s then SB.mem s q || SB.mem v q else SB.mem u q) (fun u hu => by
                      by_cases e : u = s
                      · subst e
                        rw [updF_self]
                        refine ⟨?_, fun z => ?_⟩
                        · rw [List.nodup_append]
                          refine ⟨(hId.mem u sn).1, (hId.mem v vn).1, fun a ha b hb e => ?_⟩
                          subst e
                          have h1 := (MSQ a).1 ha
                          have h2 := (MVQ a).1 hb
                          rw [h1] at h2
                          exact v3 (Option.some.inj h2).symm
                        · rw [List.mem_append, (hId.mem u sn).2 z, (hId.mem v vn).2 z]
                          simp
                      · rw [updF_ne _ _ e]
                        refine ⟨(hId.mem u hu).1, fun z => ?_⟩
                        rw [if_neg e]
                        exact (hId.mem u hu).2 z)
                    have cA : Chg (fun b => b = B1 v ∨ b = B1 s ∨ b = q + 1 ∨ (P2 s).ownBlock = some b) w8 (wA.setCell ⟨B1 s, 3, none⟩ (.slice (some ⟨g9, 0, none⟩) ((Lp2 s).length + (Lp2 v).length) c9)) :=
                      ((C9.out.drewN 1).trans ((Chg.of_rowV hg9).mono (fun b hb => .inr (.inr (.inr hb))))).trans ((Chg.of_setV wA (B1 s) 3 _).mono (fun b hb => .inr (.inl hb)))
                    have sz : w9.heap.size ≤ (wA.setCell ⟨B1 s, 3, none⟩ (.slice (some ⟨g9, 0, none⟩) ((Lp2 s).length + (Lp2 v).length) c9)).heap.size := by have : w9.heap.size ≤ wA.heap.size := hg9.size; simpa using this
                    have zg : gn1 < w9.heap.size ∧ wb < w9.heap.size := by
                      have h1 := FRM.out w9 C9.out
                      exact ⟨h1.1.lt, h1.2.1.lt⟩
                    have G : ∀ z, z < w9.heap.size → ¬ IVb (q + 1) (q + 2) og1 go w.heap.size (q + 3) st1.n B1 P2 z → ¬ IVb (q + 1) (q + 2) og1 go w.heap.size (q + 3) st1.n B1 (updF P2 s (.slice (some ⟨g9, 0, none⟩) ((Lp2 s).length + (Lp2 v).length) c9)) z := fun z hz hn hb => by
                      rcases hb with e | e | e | e | e | e | ⟨u, hu, e⟩
                      · exact hn (.inl e)
                      · exact hn (.inr (.inl e))
                      · exact hn (.inr (.inr (.inl e)))
                      · exact hn (.inr (.inr (.inr (.inl e))))
                      · exact hn (.inr (.inr (.inr (.inr (.inl e)))))
                      · exact hn (.inr (.inr (.inr (.inr (.inr (.inl e))))))
                      · rcases e with e | e
                        · exact hn (.inr (.inr (.inr (.inr (.inr (.inr ⟨u, hu, .inl e⟩))))))
                        · by_cases eu : u = s
                          · subst eu
                            rw [updF_self] at e
                            have e2 : g9 = z := Option.some.inj e
                            rcases hat9 with h | h
                            · exact hn (.inr (.inr (.inr (.inr (.inr (.inr ⟨u, hu, .inr (by rw [h, e2])⟩))))))
                            · have h3 : g9 = w9.heap.size := h
                              omega
                          · rw [updF_ne _ _ eu] at e
                            exact hn (.inr (.inr (.inr (.inr (.inr (.inr ⟨u, hu, .inr e⟩))))))
                    refine ⟨J.congr rfl (fun _ _ => ⟨rfl, rfl, rfl⟩) (fun z _ => ?_) (fun _ _ _ => Iff.rfl), cA, ⟨G gn1 zg.1 hF.out.1, G wb zg.2 hF.out.2⟩, sz⟩
                    show (if z ∈ (Lp2 v).take 0 then some s else SB.own z) = SB.own z
                    rw [if_neg (by simp)]
                  have NA9 : Hid (spL ((Lp2 s).map (spt W)) ++ spL ((Lp2 v).map (spt W)) = spL ((Lp2 s ++ Lp2 v).map (spt W))) := by rw [Hid, List.map_append, spL_append]
                  have ONE : Hid (∀ u ∈ spL ((Lp2 v).map (spt W)), u.oneCell' = true) := by
                    exact spL_one _
                  have LNN : Hid ((spL ((Lp2 v).map (spt W))).length = (Lp2 v).length * 2) := by rw [Hid, spL_length, List.length_map, Nat.mul_comm]
                  clear hw9 c9 I9 hb8 c0 k0 k1 k2 m0 m1' HREST ST8 GATW
                  go_cut [] (fun wx => ∃ (P3 : Nat → Value) (Lp3 : Nat → List Nat), IV w.heap.size W H p N go w.heap.size (q + 3) (q + 1) (q + 2) d og1 oc1 B1 P3 Lp3 { SB with dies := fun u => if u = v then g else SB.dies u, own := fun q => if q ∈ (Lp2 v).take 0 then some s else SB.own q, mem := fun u q => if u = s then SB.mem s q || SB.mem v q else SB.mem u q } wx ∧ Chg (fun b => b = B1 v ∨ b = B1 s ∨ b = q + 1 ∨ (P2 s).ownBlock = some b) w8 wx ∧ Hid (¬ IVb (q + 1) (q + 2) og1 go w.heap.size (q + 3) st1.n B1 P3 gn1 ∧ ¬ IVb (q + 1) (q + 2) og1 go w.heap.size (q + 3) st1.n B1 P3 wb) ∧ Hid (P3 v = P2 v ∧ Lp3 v = Lp2 v))
                  case first =>
                    go_region_law (refine step_appM spotT (by rfl) _ _ (by rfl) w.heap.size (P2 s) (Lp2 s).length (spL ((Lp2 s).map (spt W))) (by rfl) RS ⟨pv, 0, none⟩ (Lp2 v).length cv (spL ((Lp2 v).map (spt W))) (by rfl) LNN.out RVC.out ONE.out VL0 ((Lp2 s).length + (Lp2 v).length) (spL ((Lp2 s ++ Lp2 v).map (spt W))) rfl NA9.out (by omega) lw9 ?_; intro g9 c9 wA own9 hg9 hat9 hlt9; obtain ⟨k9, f9, J9⟩ := JN.out g9 c9 wA own9 hg9 hat9; have J9h := Lib.hid J9; clear J9 own9 hg9 hat9)
                    all_goals
                      have J9i := J9h.out _ rfl
                      go_wp2_with fail
                      go_meet
                      exact ⟨_, _, J9i.1, J9i.2.1, J9i.2.2.1, updF_ne _ _ v3, updF_ne _ _ v3⟩
                  case rest =>
                    obtain ⟨P3, Lp3, I10, C10, F10, eP⟩ := hcut
                    have e4 := (I10.val v vn).cell 3
                    simp at e4
                    rw [eP.out.1, ePv] at e4
                    clear JN e1 e2 e3 RS RV RVC LNN ONE NA9
                    go_wp2_with fail
                    go_loopw [121] (fun tv wx => ∃ t : Nat, t ≤ (Lp2 v).length ∧ tv = .int .i64 t ∧ IV w.heap.size W H p N go w.heap.size (q + 3) (q + 1) (q + 2) d og1 oc1 B1 P3 Lp3 { SB with dies := fun u => if u = v then g else SB.dies u, own := fun q => if q ∈ (Lp2 v).take t then some s else SB.own q, mem := fun u q => if u = s then SB.mem s q || SB.mem v q else SB.mem u q } wx ∧ Chg (fun b => b = B1 v ∨ b = B1 s ∨ b = q + 1 ∨ (P2 s).ownBlock = some b) w8 wx) (fun tv _ => (Lp2 v).length - (intOf tv).toNat)
                    case atStart => exact ⟨0, Nat.zero_le _, rfl, I10, C10⟩
                    case round =>
                      obtain ⟨t, ht, rfl, hIt, hCt⟩ := hrel
                      clear I10 C10 e4
                      by_cases htl : t < (Lp2 v).length
                      · have RV3 := hIt.set v vn
                        rw [eP.out.1, eP.out.2, ePv] at RV3
                        have y1 := RV3.cellAt (t * 2) (by omega)
                        have y2 := RV3.cellAt (t * 2 + 1) (by omega)
                        rw [spL_fst] at y1
                        rw [spL_snd] at y2
                        rw [List.getElem?_map, List.getElem?_eq_getElem htl] at y1 y2
                        simp only [Option.map_some] at y1 y2
                        have zb := bd1 _ (List.getElem_mem htl)
                        have TK2 : Hid ((Lp2 v).take (t + 1) = (Lp2 v).take t ++ [(Lp2 v)[t]]) := List.take_succ_eq_append_getElem htl
                        generalize (Lp2 v)[t] = z at *
                        have ZOK : Hid (spOk (spt W z)) := spt_ok s3 s4 s2 (by rw [← HN.out]; exact zb)
                        have PUT : Hid (∀ V V', Below wr.heap.size wr V → MapF spV spOk V' (q + 1) (putF (ofM W H B1 (fun q => if q ∈ (Lp2 v).take t then some s else SB.own q)) (spt W z) (ptV (B1 s))) → V.grownBy V' (some (q + 1)) → IV w.heap.size W H p N go w.heap.size (q + 3) (q + 1) (q + 2) d og1 oc1 B1 P3 Lp3 { SB with dies := fun u => if u = v then g else SB.dies u, own := fun q => if q ∈ (Lp2 v).take (t + 1) then some s else SB.own q, mem := fun u q => if u = s then SB.mem s q || SB.mem v q else SB.mem u q } V' ∧ Chg (fun b => b = B1 v ∨ b = B1 s ∨ b = q + 1 ∨ (P2 s).ownBlock = some b) w8 V') := fun V V' hb hm hg => by
                          refine ⟨((hIt.ext hb).putO (k := z) (v := s) s3 (by rw [← HN.out]; exact zb) hm hg).congr rfl (fun _ _ => ⟨rfl, rfl, rfl⟩) (fun a _ => ?_) (fun _ _ _ => Iff.rfl), (hCt.ext hb).trans ((Chg.of_rowV hg).mono (fun b hb => .inr (.inr (.inl (Option.some.inj hb).symm))))⟩
                          show (if a ∈ (Lp2 v).take (t + 1) then some s else SB.own a) = if a = z then some s else if a ∈ (Lp2 v).take t then some s else SB.own a
                          rw [TK2.out]
                          by_cases e : a = z
                          · rw [if_pos e, if_pos (by simp [e])]
                          · rw [if_neg e]
                            by_cases e2 : a ∈ (Lp2 v).take t
                            · rw [if_pos e2, if_pos (by simp [e2])]
                            · rw [if_neg e2, if_neg (by simp [e2, e])]
                        have MOW : Hid (∀ V, Below wr.heap.size wr V → MapF spV spOk V (q + 1) (ofM W H B1 (fun q => if q ∈ (Lp2 v).take t then some s else SB.own q))) := fun V hV => (hIt.ext hV).mo
                        obtain ⟨zz, hzz⟩ : ∃ zz, spt W z = zz := ⟨_, rfl⟩
                        rw [hzz] at y1 y2 ZOK PUT
                        have EX := Lib.hid (Ext.more (Ext.refl wr) (.cells #[.int .i64 zz.1, .int .i64 zz.2] 39))
                        obtain ⟨zx, zy⟩ := zz
                        simp only at y1 y2 EX
                        have n1' : (wr.alloc (.cells #[.int .i64 zx, .int .i64 zy] 39)).cell? ⟨wr.heap.size, 0, none⟩ = some (.int .i64 zx) := cell_new wr _ _ 0
                        have n2' : (wr.alloc (.cells #[.int .i64 zx, .int .i64 zy] 39)).cell? ⟨wr.heap.size, 1, none⟩ = some (.int .i64 zy) := cell_new wr _ _ 1
                        have t0' : (0 : Int) ≤ (t : Int) := by omega
                        have t1' : (t : Int) < ((Lp2 v).length : Int) := by omega
                        have wt : IntKind.i64.wrap ((t : Int) + 1) = ((t + 1 : Nat) : Int) := by rw [IntWalk.i64_in _ (by omega)]; simp
                        clear hzz RV3 hIt hCt TK2
                        go_wp2_with (at_mapUpdate; refine wpList_putF spotK _ (by rfl) _ _ _ _ (by rfl) Try.underlying104 (by rfl) (MOW.out _ EX.out) (zx, zy) ZOK.out (by rfl) ?_; intro w11 hm11 hg11 hz11; clear hz11)
                        have PU := PUT.out _ w11 EX.out hm11 hg11
                        exact ⟨⟨t + 1, by omega, by go_num, PU.1, PU.2⟩, by simp [intOf]; omega⟩
                      · obtain rfl : t = (Lp2 v).length := by omega
                        have HF10 := FRM.out wr hCt
                        have MVQ : ∀ z, z ∈ Lp2 v ↔ SB.own z = some v := fun z => ((HI9.out.mem v vn).2 z).trans (MV.out z)
                        have IE : Hid (IV w.heap.size W H p N go w.heap.size (q + 3) (q + 1) (q + 2) d og1 oc1 B1 P3 Lp3 (Vl.part (joinD d' (j + 1)) s g st1) wr) := by
                          rw [Hid, MORE.out]
                          refine hIt.congr rfl (fun _ _ => ⟨rfl, rfl, rfl⟩) (fun z _ => ?_) (fun _ _ _ => Iff.rfl)
                          show (if SB.own z = some v then some s else SB.own z) = if z ∈ (Lp2 v).take (Lp2 v).length then some s else SB.own z
                          rw [List.take_length]
                          by_cases e : z ∈ Lp2 v
                          · rw [if_pos e, if_pos ((MVQ z).1 e)]
                          · rw [if_neg e, if_neg (fun h => e ((MVQ z).2 h))]
                        have HFF := Lib.hid HF10
                        clear hIt hCt HF10 MVQ MORE
                        go_wp2_with fail
                        exact ⟨⟨j + 1, P3, Lp3, by omega, by go_num, IE.out, HFF.out.1, HFF.out.2.1, HFF.out.2.2.1, HFF.out.2.2.2, F10.out⟩, by simp [intOf]; omega⟩
                · obtain rfl : j = ln1 - 1 := by omega
                  have OKP := Lib.hid (OKJ.out (ln1 - 1) (Nat.le_refl _))
                  have SP : Hid ((Vl.part (joinD d' (ln1 - 1)) s g st1).n = m1 ∧ (Vl.part (joinD d' (ln1 - 1)) s g st1).own i = none ∧ (Vl.part (joinD d' (ln1 - 1)) s g st1).dies s = -1) := by
                    refine ⟨HM1.out, ?_, ?_⟩
                    · simp [Vl.part, HOK1.out.2]
                    · simp [Vl.part, JS.out (ln1 - 1) (Nat.le_refl _), SD.out.2]
                  have NX1 : Hid (∀ og oc B P Lp V, IV w.heap.size W H p N go w.heap.size (q + 3) (q + 1) (q + 2) d og oc B P Lp (fin i s (Vl.part (joinD d' (ln1 - 1)) s g st1)) V → IV w.heap.size W H p N go w.heap.size (q + 3) (q + 1) (q + 2) d og oc B P Lp (fold (nbN W H) (gF rows W) ((List.range (k + 1)).map o)) V) := fun og oc B P Lp V h => NXT.out _ _ _ _ _ _ (by rw [FIN2.out]; exact h)
                  have NX2 : Hid ((fold (nbN W H) (gF rows W) ((List.range (k + 1)).map o)).n = m1) := by rw [Hid, NXN.out, FIN2.out]; exact HM1.out
                  have sn1 := SD.out.1
                  clear NXT NXN FIN2 OKJ HDV HDW JS HM1
                  generalize hSB : Vl.part (joinD d' (ln1 - 1)) s g st1 = SB at *
                  have SBn : Hid (SB.n = st1.n) := by rw [Hid, ← hSB]; rfl
                  clear hSB
                  have sn : s < SB.n := by rw [SBn.out]; exact sn1
                  have MS := Lib.hid (OKP.out.mem s sn SP.out.2.2)
                  have k1 := hTb.cell 0
                  have k2 := hTb.cell 1
                  simp at k1 k2
                  have lb := hTb.lt
                  have e1 := (hI.val s sn).cell 3
                  have e3 := (hI.val s sn).free 3
                  simp at e1
                  have RS := hI.set s sn
                  have HI := Lib.hid hI
                  have HR2 := Lib.hid (And.intro hTb (And.intro hB hB1))
                  have NI : Hid (¬ i ∈ Lp2 s) := fun hi2 => by
                    have h1 := ((HI.out.mem s sn).2 i).1 hi2
                    rw [MS.out i, SP.out.2.1] at h1
                    cases h1
                  have ls : (Lp2 s).length ≤ N := nodup_le (hI.mem s sn).1 (fun z hz => OKP.out.lt s z sn (((hI.mem s sn).2 z).1 hz))
                  have lwr : w.heap.size ≤ wr.heap.size := hB.size
                  have iN : i < W * H := by rw [← HN.out]; exact od2
                  have SPI : Hid (spt W i = ((x : Int), (y : Int))) := by rw [Hid, SPT.out]
                  have FRM : Hid (∀ V, (Chg (fun b => b = B1 s ∨ b = q + 1 ∨ (P2 s).ownBlock = some b) wr V) → Blk V wb 39 #[.int .i64 (x : Int), .int .i64 (y : Int)] ∧ Below w.heap.size w V ∧ Below w1.heap.size w1 V) := by
                    intro V hV
                    have h0 := HI.out
                    have lo := h0.lo
                    have kd := h0.kinds
                    have e2 : w1.heap.size ≤ B1 s := by have := (kd.1 s sn).2.2.2.2.1; have := lo.2.2.2.2.2.2 s sn; omega
                    have e3 : ∀ b, (P2 s).ownBlock = some b → w1.heap.size ≤ b := fun b hb => by have := (kd.2.1 s sn b hb).2.2.2.2.1; have := ((h0.set s sn).lt b hb).1; omega
                    have fg : ∀ b, (b = B1 s ∨ b = q + 1 ∨ (P2 s).ownBlock = some b) → IVb (q + 1) (q + 2) og1 go w.heap.size (q + 3) st1.n B1 P2 b := fun b hb => by
                      rcases hb with rfl | rfl | hb
                      · exact .inr (.inr (.inr (.inr (.inr (.inr ⟨s, sn1, .inl rfl⟩)))))
                      · exact .inl rfl
                      · exact .inr (.inr (.inr (.inr (.inr (.inr ⟨s, sn1, .inr hb⟩)))))
                    have bel : ∀ b, (b = B1 s ∨ b = q + 1 ∨ (P2 s).ownBlock = some b) → w1.heap.size ≤ b := fun b hb => by
                      rcases hb with rfl | rfl | hb
                      · exact e2
                      · omega
                      · exact e3 b hb
                    exact ⟨hV.blk HR2.out.1 (fun hb => hF.out.2 (fg _ hb)), HR2.out.2.1.trans (hV.below (fun b hb => by have := bel b hb; omega) HR2.out.2.1.size), HR2.out.2.2.trans (hV.below bel HR2.out.2.2.size)⟩
                  have JN : Hid (∀ V0, Below wr.heap.size wr V0 → ∀ g9 c9 (wA : World), wA.ownsRow w.heap.size 39 2 (.slice (some ⟨g9, 0, none⟩) ((Lp2 s).length + 1) c9) ((Lp2 s).length + 1) (spL ((Lp2 s).map (spt W)) ++ [.int .i64 (x : Int), .int .i64 (y : Int)]) → V0.grownBy wA (P2 s).ownBlock → ((P2 s).ownBlock = some g9 ∨ g9 = V0.heap.size) →
                      wA.cell? ⟨B1 s, 3, none⟩ = some (P2 s) ∧ wA.frozen? ⟨B1 s, 3, none⟩ = false ∧ ∀ V, V = wA.setCell ⟨B1 s, 3, none⟩ (.slice (some ⟨g9, 0, none⟩) ((Lp2 s).length + 1) c9) →
                      IV w.heap.size W H p N go w.heap.size (q + 3) (q + 1) (q + 2) d og1 oc1 B1 (updF P2 s (.slice (some ⟨g9, 0, none⟩) ((Lp2 s).length + 1) c9)) (updF Lp2 s (Lp2 s ++ [i])) { SB with mem := (fin i s SB).mem } V ∧ Chg (fun b => b = B1 s ∨ b = q + 1 ∨ (P2 s).ownBlock = some b) wr V) := by
                    intro V0 hV0 g9 c9 wA ho9 hg9 hat9
                    have hId := HI.out.ext hV0
                    have kd := hId.kinds
                    have bB := (hId.val s sn).by_grown hg9 (fun e => (kd.1 s sn).2.2.2.2.2.2 s sn e.symm)
                    refine ⟨by have := bB.cell 3; simpa using this, bB.free 3, ?_⟩
                    rintro V rfl
                    have J := hId.join sn (l := [i]) (g := g9) (M := (Lp2 s).length + 1) (cap := c9) (by simp) (by rw [List.map_append, spL_append]; simpa [spL, SPI.out] using ho9) hg9 hat9 (fin i s SB).mem (fun u hu => by
                      by_cases e : u = s
                      · subst e
                        rw [updF_self]
                        refine ⟨?_, fun z => ?_⟩
                        · rw [List.nodup_append]
                          refine ⟨(hId.mem u sn).1, by simp, fun a ha b hb e => ?_⟩
                          have hb2 : b = i := by simpa using hb
                          rw [e, hb2] at ha
                          exact NI.out ha
                        · rw [List.mem_append, (hId.mem u sn).2 z]
                          by_cases e2 : z = i
                          · simp [fin, e2]
                          · simp [fin, e2]
                      · rw [updF_ne _ _ e]
                        refine ⟨(hId.mem u hu).1, fun z => ?_⟩
                        rw [(hId.mem u hu).2 z]
                        simp [fin, e])
                    have cA : Chg (fun b => b = B1 s ∨ b = q + 1 ∨ (P2 s).ownBlock = some b) wr (wA.setCell ⟨B1 s, 3, none⟩ (.slice (some ⟨g9, 0, none⟩) ((Lp2 s).length + 1) c9)) :=
                      ((Chg.refl _ wr).ext hV0).trans (((Chg.of_rowV hg9).mono (fun b hb => .inr (.inr hb))).trans ((Chg.of_setV wA (B1 s) 3 _).mono (fun b hb => .inl hb)))
                    exact ⟨J, cA⟩
                  have bsl := (hI.val s sn).lt
                  have e1a : (wr.alloc (.cells #[.int .i64 (x : Int), .int .i64 (y : Int)] 39)).cell? ⟨B1 s, 3, none⟩ = some (P2 s) := ((Ext.more (Ext.refl wr) (.cells #[.int .i64 (x : Int), .int .i64 (y : Int)] 39)).cell (p := ⟨B1 s, 3, none⟩) bsl).trans e1
                  have e1b : (wr.drew.alloc (.cells #[.int .i64 (x : Int), .int .i64 (y : Int)] 39)).cell? ⟨B1 s, 3, none⟩ = some (P2 s) := e1a
                  clear hI hB hB1 hP hTb
                  go_upto_region 33 with fail
                  go_cut [] (fun wx => ∃ (P4 : Nat → Value) (Lp4 : Nat → List Nat), IV w.heap.size W H p N go w.heap.size (q + 3) (q + 1) (q + 2) d og1 oc1 B1 P4 Lp4 { SB with mem := (fin i s SB).mem } wx ∧ Chg (fun b => b = B1 s ∨ b = q + 1 ∨ (P2 s).ownBlock = some b) wr wx)
                  case first =>
                    go_region_law (refine step_app spotT (by rfl) _ _ (by rfl) w.heap.size (P2 s) (Lp2 s).length (spL ((Lp2 s).map (spt W))) (by rfl) (RS.alloc _) wr.heap.size #[.int .i64 (x : Int), .int .i64 (y : Int)] (by rfl) (by exact heap_alloc_new wr _) rfl (by simp [Value.oneCell']) (by omega) (by simp; omega) ?_; intro g9 c9 wA own9 hg9 hat9 hlt9; obtain ⟨k9, f9, J9⟩ := JN.out _ (by first | exact Ext.more (Ext.draw (Ext.refl wr)) _ | exact Ext.draw (Ext.more (Ext.refl wr) _)) g9 c9 wA own9 hg9 hat9; have J9h := Lib.hid J9; clear J9 own9 hg9 hat9)
                    all_goals
                      have J9i := J9h.out _ rfl
                      go_wp2_with fail
                      go_meet
                      exact ⟨_, _, J9i.1, J9i.2⟩
                  case rest =>
                    obtain ⟨P4, Lp4, I10, C10⟩ := hcut
                    have FR := FRM.out _ C10
                    have d0 := FR.1.cell 0
                    have d1 := FR.1.cell 1
                    simp at d0 d1
                    have MO10 := Lib.hid I10.mo
                    have IOK : Hid (spOk ((x : Int), (y : Int))) := by
                      have := spt_ok s3 s4 s2 iN
                      rw [SPI.out] at this; exact this
                    have PUT : Hid (∀ V', MapF spV spOk V' (q + 1) (putF (ofM W H B1 SB.own) ((x : Int), (y : Int)) (ptV (B1 s))) → World.grownBy wc V' (some (q + 1)) → IV w.heap.size W H p N go w.heap.size (q + 3) (q + 1) (q + 2) d og1 oc1 B1 P4 Lp4 (fin i s SB) V' ∧ Below w.heap.size w V' ∧ Below w1.heap.size w1 V') := fun V' hm hg => by
                      rw [← SPI.out] at hm
                      have h1 := I10.putO (k := i) (v := s) s3 iN hm hg
                      have h2 := FRM.out V' (C10.trans ((Chg.of_rowV hg).mono (fun b hb => .inr (.inl (Option.some.inj hb).symm))))
                      exact ⟨h1.congr rfl (fun _ _ => ⟨rfl, rfl, rfl⟩) (fun _ _ => rfl) (fun _ _ _ => Iff.rfl), h2.2.1, h2.2.2⟩
                    clear I10 C10 FR JN e1 e1a e1b e3 RS
                    go_wp2_with (at_mapUpdate; refine wpList_putF spotK _ (by rfl) _ _ _ _ (by rfl) Try.underlying104 (by rfl) MO10.out ((x : Int), (y : Int)) IOK.out (by rfl) ?_; intro w11 hm11 hg11 hz11; clear hz11)
                    have PU := Lib.hid (PUT.out w11 hm11 hg11)
                    exact ⟨⟨k + 1, og1, oc1, m1, B1, P4, Lp4, by omega, by go_num, rfl, NX2.out, NX1.out _ _ _ _ _ _ PU.out.1, PU.out.2.1, PU.out.2.2⟩, by simp [intOf]; omega⟩
    · obtain rfl : N = k := by omega
      have HM : Hid ((fold (nbN W H) (gF rows W) (ordS (gF rows W) N 100)).n = m) := by have := hm.out; rw [HEO2.out] at this; exact this
      rw [HEO2.out] at hI
      have R := Lib.hid (And.intro hI hB)
      clear hI hB hB1 hm
      go_wp2_with fail
      go_ret
      exact ⟨go, w.heap.size, q + 3, q + 1, q + 2, d, og, oc, B, P, Lp, by rw [HM.out]; rfl, R.out.1, R.out.2⟩
end Go.Proofs.Ytkamkjbllmgifaa
