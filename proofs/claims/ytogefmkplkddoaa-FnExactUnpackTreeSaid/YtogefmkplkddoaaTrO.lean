/- Trees of squares: the reference's opening of a tree, PackTree. -/
import Derived.Test.YtogefmkplkddoaaTrR
import Derived.Test.YtogefmkplkddoaaTrL
import Derived.Test.YtogefmkplkddoaaTldP
namespace Go.Proofs.Ytogefmkplkddoaa
open Go.RowKit

theorem sideS_any (s : Int) (w : World) : Calls Try.prog 35 #[.int .i64 s] w fun e w' => e = .returned (.bool (sdB s)) ∧ w = w' := by
  by_cases h1 : s = 1
  · subst h1
    go_enter Try.func35, Try.ntmps35
    go_wp2_with fail
    go_ret
    exact ⟨rfl, rfl⟩
  by_cases h2 : s = 2
  · subst h2
    go_enter Try.func35, Try.ntmps35
    go_wp2_with fail
    go_ret
    exact ⟨rfl, rfl⟩
  by_cases h4 : s = 4
  · subst h4
    go_enter Try.func35, Try.ntmps35
    go_wp2_with fail
    go_ret
    exact ⟨rfl, rfl⟩
  by_cases h8 : s = 8
  · subst h8
    go_enter Try.func35, Try.ntmps35
    go_wp2_with fail
    go_ret
    exact ⟨rfl, rfl⟩
  have e1 : (s == 1) = false := by simpa using h1
  have e2 : (s == 2) = false := by simpa using h2
  have e4 : (s == 4) = false := by simpa using h4
  have e8 : (s == 8) = false := by simpa using h8
  by_cases h16 : s = 16
  · subst h16
    go_enter Try.func35, Try.ntmps35
    go_wp2_with fail
    go_ret
    exact ⟨rfl, rfl⟩
  have e16 : (s == 16) = false := by simpa using h16
  have F : Hid (sdB s = false) := by simp [Hid, sdB, e1, e2, e4, e8, e16]
  go_enter Try.func35, Try.ntmps35
  go_wp2_with fail
  go_ret
  exact ⟨by rw [F.out]; rfl, rfl⟩
theorem tr_small {s : Int} {t : ByteArray} {T : QT} (h : trO s t = some T) : t.size ≤ 1000 := by
  obtain ⟨h1, h2, h3, _⟩ := trO_facts h
  have h4 := txt_len _ T h3
  have h5 : t.size = T.txt.length := by rw [← h2]; rfl
  have h6 : 4 ^ sdN s ≤ 4 ^ 4 := Nat.pow_le_pow_right (by decide) (sdB_iff h1).1
  omega
/-- The pixels of a told picture. -/
theorem told_px {L : List Bool} {S : Nat} (h0 : 0 < S) (hL : L.length = S * S) {x y : Nat} (hx : x < S) (hy : y < S) :
    bit (picBits (rowsTo L S S)) (picW (rowsTo L S S)) (rowsTo L S S).length (x : Int) (y : Int) = L.getD (y * S + x) false := by
  rw [told_w h0, rowsTo_length, told_bits h0 hL, bit_in hx hy]
/-- What was read and painted from white: the tree of its pixels is the tree, if that is a normal one. -/
theorem pnt_qtf {n S : Nat} {T : QT} {L : List Bool} (hS : S = 2 ^ n) (hP : Pnt S T n 0 0 (List.replicate (S * S) false) L) :
    (∀ i j, i < S → j < S → L.getD (j * S + i) false = T.px n i j) := by
  intro i j hi hj
  have h := hP.2 i j hi hj
  rw [if_pos (by omega)] at h
  rw [h]
  have : (List.replicate (S * S) false).getD (j * S + i) false = false := by
    rw [List.getD_eq_getElem?_getD]
    by_cases hk : j * S + i < S * S
    · rw [List.getElem?_replicate, if_pos hk]; rfl
    · rw [List.getElem?_replicate, if_neg hk]; rfl
  rw [this]; simp
theorem sq_qtf {n S : Nat} {T : QT} {L : List Bool} (h0 : 0 < S) (hS : S = 2 ^ n) (hL : L.length = S * S) (hp : ∀ i j, i < S → j < S → L.getD (j * S + i) false = T.px n i j) :
    qtf n (sqF (bit (picBits (rowsTo L S S)) (picW (rowsTo L S S)) (rowsTo L S S).length) 0 0) = qtf n (T.px n) := by
  refine qtf_congr n _ _ (fun i j hi hj => ?_)
  rw [sqF, Nat.zero_add, Nat.zero_add, told_px h0 hL (by omega) (by omega)]
  exact hp i j (by omega) (by omega)
/-- Read to the end and written again the same: a tree. -/
theorem op_yes {s : Int} {t : ByteArray} {T : QT} (hs : sdB s = true) (hr : rd false (sdN s) t.data.toList = some (T, [])) (ht : t.data.toList = (qtf (sdN s) (T.px (sdN s))).txt) : trO s t = some T := by
  obtain ⟨h1, h2, _⟩ := rd_some _ _ _ _ hr
  rw [List.append_nil] at h1
  have h3 := txt_inj (qtf_fits _ _) h2 (ht.symm.trans h1)
  exact trO_of hs h1 h2 (by rw [← h3]; exact qtf_nrm _ _)
theorem op_no {s : Int} {t : ByteArray} {T : QT} (hr : rd false (sdN s) t.data.toList = some (T, [])) (ht : t.data.toList ≠ (qtf (sdN s) (T.px (sdN s))).txt) : trO s t = none := by
  cases h : trO s t with
  | none => rfl
  | some U =>
    exfalso
    obtain ⟨h1, h2, _⟩ := rd_some _ _ _ _ hr
    rw [List.append_nil] at h1
    obtain ⟨_, h4, h5, h6⟩ := trO_facts h
    have e : U = T := txt_inj h5 h2 (h4.symm.trans h1)
    subst e
    exact ht (by rw [qtf_px _ _ h5 h6]; exact h1)
theorem op_short {s : Int} {t : ByteArray} (hr : ∀ T, rd false (sdN s) t.data.toList ≠ some (T, [])) : trO s t = none := by
  cases h : trO s t with
  | none => rfl
  | some U =>
    exfalso
    obtain ⟨_, h4, h5, h6⟩ := trO_facts h
    refine hr U ?_
    rw [h4]
    have := rd_txt (k := false) (sdN s) U [] h5 (fun h => by cases h)
    simpa using this
theorem atR_end {n : Nat} {t : ByteArray} (h : atR t (rdZ n t 0) = (t.size : Int)) : ∃ T, rd false n t.data.toList = some (T, []) := by
  have e : rdZ n t 0 = rd false n t.data.toList := rdZ_nat n t 0
  rw [e] at h
  cases hr : rd false n t.data.toList with
  | none => rw [hr] at h; simp only [atR] at h; omega
  | some z =>
    obtain ⟨T, r⟩ := z
    rw [hr] at h
    simp only [atR] at h
    obtain ⟨h1, _⟩ := rd_some _ _ _ _ hr
    have hl : t.data.toList.length = t.size := rfl
    have h2 := congrArg List.length h1
    rw [hl, List.length_append] at h2
    have h3 : 0 < T.txt.length := by cases T <;> simp [QT.txt]
    cases r with
    | nil => exact ⟨T, rfl⟩
    | cons a r => simp only [List.length_cons] at h h2; omega
theorem wrap_small {z : Int} (h0 : 0 ≤ z) (h1 : z ≤ 256) : IntKind.i64.wrap z = z := IntWalk.i64_in _ (by omega)
theorem Blk.chgT {S : Nat → Prop} {w w' : World} {g : Nat} {t : TypeId} {cs : Array Value} (h : Blk w g t cs) (hb : Chg S w w') (hs : ¬ S g) : Blk w' g t cs := (hb.block g h.lt hs).trans h
/-- A tree was opened. -/
def OpRes (s : Int) (t : ByteArray) (w : World) (e : Ending) (w' : World) : Prop :=
  ∃ (A : Option Addr) (k c : Nat), e = .returned (.tuple #[.agg #[.slice A k c], .bool (ptB s t)]) ∧ Below w.heap.size w w' ∧
    ∀ T, trO s t = some T → ∃ (S : Nat) (L : List Bool), s = S ∧ S = 2 ^ sdN s ∧ k = S ∧ L.length = S * S ∧ Rd w' A (strs (rowsTo L S S)) ∧ ∀ i j, i < S → j < S → L.getD (j * S + i) false = T.px (sdN s) i j
theorem OpRes.no {s : Int} {t : ByteArray} {w w' : World} {A : Option Addr} {k c : Nat} (h : trO s t = none) (hb : Below w.heap.size w w') : OpRes s t w (.returned (.tuple #[.agg #[.slice A k c], .bool false])) w' :=
  ⟨A, k, c, by rw [(pt_no h).1], hb, fun T h2 => by rw [h] at h2; cases h2⟩
set_option maxRecDepth 100000 in
set_option maxHeartbeats 2000000 in
theorem open_any (p : Nat) (s : Int) (t : ByteArray) (w : World) (ht : t.size ≤ 1048576) (hB : Blk w p 29 #[.int .i64 s, .string t]) :
    Calls Try.prog 31 #[.pointer (some ⟨p, 0, none⟩)] w (OpRes s t w) := by
  have T1 := Blk.made w 41 #[.slice none 0 0]
  have B1 : Below w.heap.size w (w.alloc (.cells #[.slice none 0 0] 41)) := Ext.more (Ext.refl _) _
  have hB1 := hB.more (.cells #[.slice none 0 0] 41)
  have d0 := hB1.cell 0
  have d1 := hB1.cell 1
  have c0 := T1.cell 0
  have f0 := T1.free 0
  have cs := (T1.store 0 (.slice none 0 0)).cell 0
  have hl := T1.lt
  simp at c0 cs d0 d1
  have hBlt : Hid (p < w.heap.size) := hB.lt
  have SD := Lib.hid (fun V => sideS_any s V)
  cases hs : sdB s
  · have F := Lib.hid (trO_side (t := t) hs)
    rw [hs] at SD
    clear hs hB
    go_enter Try.func31, Try.ntmps31
    go_wp2_with fail
    refine (SD.out _).mono ?_
    rintro e w' ⟨rfl, rfl⟩
    go_wp2_with fail
    refine bodyPost_ret (v := .tuple #[.agg #[.slice none 0 0], .bool false]) (by simp [results, Try.results31, go_sem]) rfl (OpRes.no F.out B1)
  rw [hs] at SD
  by_cases hbig : 1000 < t.size
  · have F : Hid (trO s t = none) := by
      cases h : trO s t with
      | none => rfl
      | some T => have := tr_small h; omega
    have q0 : (1000 : Int) < (t.size : Int) := by omega
    clear hs hB
    go_enter Try.func31, Try.ntmps31
    go_wp2_with fail
    refine (SD.out _).mono ?_
    rintro e w' ⟨rfl, rfl⟩
    go_wp2_with fail
    refine bodyPost_ret (v := .tuple #[.agg #[.slice none 0 0], .bool false]) (by simp [results, Try.results31, go_sem]) rfl (OpRes.no F.out B1)
  obtain ⟨hn4, hsS⟩ := sdB_iff hs
  obtain ⟨S, hS⟩ : ∃ S, 2 ^ sdN s = S := ⟨_, rfl⟩
  rw [hS] at hsS
  have HS := Lib.hid hS
  have HSS := Lib.hid hsS
  have h16 : S ≤ 16 := by rw [← hS]; exact Nat.le_trans (Nat.pow_le_pow_right (by decide) hn4) (by decide)
  have h0 : 0 < S := by rw [← hS]; exact Nat.pow_pos (by decide)
  have HSD := Lib.hid hs
  obtain ⟨n, hn⟩ : ∃ n, sdN s = n := ⟨_, rfl⟩
  have HN := Lib.hid hn
  obtain ⟨i0, hi', hz0, hz1, hz2⟩ := info_parts boolInfo
  have hb : S * S ≤ 256 := Nat.le_trans (Nat.mul_le_mul h16 h16) (by decide)
  have hc : (S : Int) * S = ((S * S : Nat) : Int) := by simp
  have hmk : ∀ V : World, (Instr.makeSlice 91 (.int .i64 ((S : Int) * S)) (.int .i64 ((S : Int) * S))).run Try.prog V = .ok (.slice (some ⟨V.heap.size, 0, none⟩) (S * S) (S * S)) (V.alloc (.cells (boolC (List.replicate (S * S) false)) 4)) := by
    intro V
    have h := run_make (P := Try.prog) V 91 4 i0 _ Try.underlying91 hi' hz0 .i64 .i64 ((S : Int) * S) ((S : Int) * S) (by omega) (Int.le_refl _) (by rw [hz2]; omega) (by omega)
    rw [h, hz1, hc, Int.toNat_natCast]
    show Result.ok _ (V.alloc (.cells (madeCells #[.bool false] (S * S * 1)) _)) = _
    rw [Nat.mul_one, boolC_made]
  have hm1 : (S : Int) * S ≤ 256 := by omega
  have hm0 : (0 : Int) ≤ (S : Int) * S := by omega
  have mw1 : IntKind.i64.wrap ((S : Int) * (S : Int)) = (S : Int) * S := wrap_small hm0 hm1
  rw [hn] at hn4 hS
  obtain ⟨V2, hV2⟩ : ∃ V2, ((w.alloc (.cells #[.slice none 0 0] 41)).alloc (.cells (boolC (List.replicate (S * S) false)) 4)).drew = V2 := ⟨_, rfl⟩
  have KT := hB1.more (.cells (boolC (List.replicate (S * S) false)) 4)
  have e0 := KT.cell 0
  simp at e0
  have MB : Blk V2 (w.heap.size + 1) 4 (boolC (List.replicate (S * S) false)) := by
    have := Blk.made (w.alloc (.cells #[.slice none 0 0] 41)) 4 (boolC (List.replicate (S * S) false))
    simp only [World.size_alloc] at this
    rw [← hV2]; exact this
  have KB : Blk V2 w.heap.size 41 #[.slice none 0 0] := by rw [← hV2]; exact (T1.more (.cells (boolC (List.replicate (S * S) false)) 4))
  have KT2 : Blk V2 p 29 #[.int .i64 s, .string t] := by rw [← hV2]; exact KT
  have B2 : Below w.heap.size w V2 := by rw [← hV2]; exact Ext.draw (Ext.more B1 _)
  have np0 : p ≠ w.heap.size + 1 := by have := hB.lt; omega
  have RZ := Lib.hid (readS_any t (by omega) (w.heap.size + 1) (S * S) S (by omega) (Nat.le_refl _) h16 n hn4 S 0 0 0 _ V2.drew hS.symm (by omega) (by omega) List.length_replicate MB (by omega) (by omega))
  simp at RZ
  rw [hsS] at d0 e0 SD
  have q0 : ¬ (1000 : Int) < (t.size : Int) := by omega
  have W2 := Lib.hid hV2
  have HB : Hid (Below w.heap.size w V2.drew ∧ Blk V2.drew w.heap.size 41 #[.slice none 0 0] ∧ Blk V2.drew p 29 #[.int .i64 s, .string t]) := ⟨Ext.draw B2, KB, KT2⟩
  rw [hsS] at KT2
  have g0 := KT2.cell 0
  have g1 := KT2.cell 1
  simp at g0 g1
  have HG : Hid (∀ V3, Chg (fun b => b = w.heap.size + 1) V2.drew V3 → V3.cell? ⟨p, 0, none⟩ = some (.int .i64 (S : Int)) ∧ V3.cell? ⟨p, 1, none⟩ = some (.string t)) := fun V3 hC =>
    ⟨(hC.cell (p := ⟨p, 0, none⟩) KT2.lt np0).trans g0, (hC.cell (p := ⟨p, 1, none⟩) KT2.lt np0).trans g1⟩
  clear hs hB hn hS hsS hi' hz0 hz1 hz2 hc MB KB KT cs hB1 hl hV2 KT2 B2
  go_enter Try.func31, Try.ntmps31
  go_wp2_with fail
  refine (SD.out _).mono ?_
  rintro e w' ⟨rfl, rfl⟩
  go_wp2_with fail
  go_region_held3 (fun w' => w'.cell? ⟨p, 0, none⟩ = some (.int .i64 (S : Int))) (first | exact d0 | (with_reducible refine cell_drew ?_; exact d0) | exact e0 | (with_reducible refine cell_drew ?_; exact e0)) (fail)
  rw [W2.out]
  clear d0 d1 e0 f0 c0 hmk T1 B1
  go_wp2_with fail
  go_region_held3 (fun w' => w'.cell? ⟨p, 0, none⟩ = some (.int .i64 (S : Int)) ∧ w'.cell? ⟨p, 1, none⟩ = some (.string t))
    (first | exact ⟨g0, g1⟩ | exact HG.out _ hC | (go_split_ands; refine ⟨?_, ?_⟩ <;> (repeat (first | exact g0 | exact g1 | exact (HG.out _ hC).1 | exact (HG.out _ hC).2 | with_reducible refine cell_drewN ?_ | with_reducible refine cell_drew ?_)); done))
    (first | (go_at_call 54; refine (RZ.out).mono ?_; rintro e V3 ⟨L, rfl, HBL, hLL, hC, hP⟩))
  have nw : w.heap.size ≠ w.heap.size + 1 := by omega
  have B3 : Below w.heap.size w V3 := HB.out.1.trans (hC.below (fun k hk => by omega) HB.out.1.size)
  have KB3 := Blk.chgT HB.out.2.1 hC nw
  have KT3 := Blk.chgT HB.out.2.2 hC np0
  have rs := KB3.cell 0
  simp at rs
  have g0 := (HG.out _ hC).1
  have g1 := (HG.out _ hC).2
  have EZ : Hid (rdZ n t 0 = rd false n t.data.toList) := rdZ_nat n t 0
  clear RZ HG HB hC W2
  by_cases heq : atR t (rdZ n t 0) = (t.size : Int)
  case neg =>
    have F : Hid (trO s t = none) := op_short (fun T h => heq (by rw [EZ.out, ← HN.out, h]; simp [atR]))
    have hne : (atR t (rdZ n t 0) != (t.size : Int)) = true := by rw [bne_iff_ne]; exact heq
    generalize atR t (rdZ n t 0) = r at *
    have f0 := KB3.free 0
    have hl := KB3.lt
    have cs := (KB3.store 0 (.slice none 0 0)).cell 0
    simp at cs
    clear heq hP HBL hLL KB3 KT3
    go_wp2_with fail
    refine bodyPost_ret (v := .tuple #[.agg #[.slice none 0 0], .bool false]) (by simp [results, Try.results31, go_sem, cs]) rfl (OpRes.no F.out (B3.setCell (p := ⟨w.heap.size, 0, none⟩) (Nat.le_refl _) _))
  obtain ⟨T, hT⟩ := atR_end heq
  have hne : (atR t (rdZ n t 0) != (t.size : Int)) = false := by rw [heq]; simp
  have PP := hP T [] (by rw [EZ.out]; exact hT)
  have HLL := Lib.hid hLL
  have PX := Lib.hid (pnt_qtf HS.out.symm (by rw [HN.out]; exact PP))
  have RD : Rd V3 (some ⟨w.heap.size + 1, 0, none⟩) (bools L) := fun _ => ⟨_, rfl, HBL.lt, fun i hi => by
    have hi2 : i < L.length := by simpa [bools] using hi
    rw [HBL.cell i, boolC_get L i hi2]; simp [bools]⟩
  have MK := Lib.hid (make_any (some ⟨w.heap.size + 1, 0, none⟩) (S * S) S S L V3 RD h0 (by omega) (by omega) hLL)
  have HT := Lib.hid hT
  have K3 := Lib.hid (And.intro B3 (And.intro KB3 KT3))
  generalize atR t (rdZ n t 0) = r at *
  subst heq
  clear hP PP hLL RD HBL hT EZ B3 KB3 KT3
  go_wp2_with fail
  refine MK.out.mono ?_
  rintro e V4 ⟨A, c, rfl, ho, hb4⟩
  obtain ⟨pp, hpp⟩ : ∃ pp, V4.heap.size = pp := ⟨_, rfl⟩
  obtain ⟨V5, hV5⟩ : ∃ V5, V4.alloc (.cells #[.slice A S c] 41) = V5 := ⟨_, rfl⟩
  have HPP := Lib.hid hpp
  have W5 := Lib.hid hV5
  have zw : w.heap.size < V3.heap.size := K3.out.2.1.lt
  have zv : V3.heap.size ≤ V4.heap.size := hb4.size
  have B4 := Ext.then_ K3.out.1 hb4
  have KB5 : Blk V5.drew w.heap.size 41 #[.slice none 0 0] := by rw [← hV5]; exact (K3.out.2.1.under hb4 zw).more _
  have KT5 : Blk V5.drew p 29 #[.int .i64 s, .string t] := by rw [← hV5]; exact (K3.out.2.2.under hb4 K3.out.2.2.lt).more _
  have KP5 : Blk V5.drew pp 41 #[.slice A S c] := by rw [← hV5, ← hpp]; exact Blk.made V4 _ _
  have C5 : Hid (Chg (fun b => b = w.heap.size ∨ pp ≤ b) V4 V5.drew) := by
    rw [Hid, ← hV5, ← hpp]
    exact (Chg.of_below (Ext.draw (Ext.more (Ext.refl V4) _))).mono (fun k hk => .inr hk)
  have PA : PicAt V5.drew pp A c (rowsTo L S S) := ⟨KP5.lt, by rw [rowsTo_length]; simpa using KP5.cell 0, by
    rw [← hV5]; exact (Rd.of_own ho).ext (Ext.draw (Ext.more (Ext.refl V4) _))⟩
  have HSn : S = 2 ^ n := by have := HS.out; rw [HN.out] at this; exact this.symm
  have TX := textS_any pp (bit (picBits (rowsTo L S S)) (picW (rowsTo L S S)) (rowsTo L S S).length) V5.drew (fun i j => black_any pp A c (rowsTo L S S) i j V5.drew PA (told_ok h0 h16 h0 h16)) n hn4 S 0 0 HSn (by omega) (by omega)
  rw [sq_qtf h0 HSn HLL.out (by rw [← HN.out]; exact PX.out)] at TX
  obtain ⟨Y, hY⟩ : ∃ Y : ByteArray, (⟨(qtf n (T.px n)).txt.toArray⟩ : ByteArray) = Y := ⟨_, rfl⟩
  rw [hY] at TX
  simp at TX
  have HTX := Lib.hid TX
  have YB : Hid ((Y.toList == t.toList) = ptB s t ∧ ∀ U, trO s t = some U → U = T) := by
    have hT := HT.out
    have hs := HSD.out
    have e : Y.data.toList = (qtf n (T.px n)).txt := by rw [← hY]
    by_cases h : t.data.toList = (qtf n (T.px n)).txt
    · have q := op_yes hs (by rw [HN.out]; exact hT) (by rw [HN.out]; exact h)
      refine ⟨?_, fun U hU => by rw [q] at hU; cases hU; rfl⟩
      rw [(pt_yes q).1, beq_iff_eq, ByteArray.toList_eq, ByteArray.toList_eq]
      exact e.trans h.symm
    · have q := op_no (s := s) (by rw [HN.out]; exact hT) (by rw [HN.out]; exact h)
      refine ⟨?_, fun U hU => by rw [q] at hU; cases hU⟩
      rw [(pt_no q).1, beq_eq_false_iff_ne, ByteArray.toList_eq, ByteArray.toList_eq]
      intro h2
      exact h (h2.symm.trans e)
  have OW := Lib.hid (And.intro ho (And.intro zw zv))
  have HB4 := Lib.hid B4
  have s1 := HSS.out
  have g0 := KT5.cell 0
  have g1 := KT5.cell 1
  have g2 := KP5.cell 0
  have f0 := KB5.free 0
  have hl := KB5.lt
  have cs := (KB5.store 0 (.slice A S c)).cell 0
  rw [s1] at g0
  have k0 := KB5.cell 0
  simp at g0 g1 g2 cs k0
  have HK5 := Lib.hid (And.intro KB5 (And.intro KT5 KP5))
  clear MK ho hb4 TX PA hY hpp hV5 s1 HSn KB5 KT5 KP5 zw zv B4
  go_wp2_with fail
  rw [HPP.out, W5.out]
  have g0 : V5.cell? ⟨p, 0, none⟩ = some (.int .i64 (S : Int)) := g0
  have g1 : V5.cell? ⟨p, 1, none⟩ = some (.string t) := g1
  have g2 : V5.cell? ⟨pp, 0, none⟩ = some (.slice A S c) := g2
  have k1 : V5.cell? ⟨w.heap.size, 0, none⟩ = some (.slice none 0 0) := k0
  have nf : V5.frozen? ⟨w.heap.size, 0, none⟩ = false := f0
  have ql : w.heap.size < V5.heap.size := hl
  have m0 := cell_other (g := w.heap.size) (i := 0) (u := .slice A S c) (show w.heap.size ≠ p from fun e => by have := hBlt.out; omega) g0
  have m1 := cell_other (g := w.heap.size) (i := 0) (u := .slice A S c) (show w.heap.size ≠ p from fun e => by have := hBlt.out; omega) g1
  have m2 := cell_other (g := w.heap.size) (i := 0) (u := .slice A S c) (show w.heap.size ≠ pp from fun e => by have := OW.out.2.1; have := OW.out.2.2; have := HPP.out; omega) g2
  go_region_held3 (fun w' => (w'.cell? ⟨p, 0, none⟩ = some (.int .i64 (S : Int)) ∧ w'.cell? ⟨p, 1, none⟩ = some (.string t)) ∧ w'.cell? ⟨pp, 0, none⟩ = some (.slice A S c))
    (first | exact ⟨⟨g0, g1⟩, g2⟩ | exact ⟨⟨m0, m1⟩, m2⟩ | exact m0 | exact m1 | exact m2 | (go_split_ands; refine ⟨⟨?_, ?_⟩, ?_⟩ <;> (repeat (first | exact g0 | exact g1 | exact g2 | exact m0 | exact m1 | exact m2 | with_reducible refine cell_drewN ?_ | with_reducible refine cell_drew ?_)); done))
    (first | (go_at_call 56; refine (HTX.out).mono ?_; rintro e V6 ⟨rfl, rfl⟩))
  have cs : ((V5.setCell ⟨w.heap.size, 0, none⟩ (.slice A S c)).drew).cell? ⟨w.heap.size, 0, none⟩ = some (.slice A S c) := cs
  have BF : Below w.heap.size w ((V5.setCell ⟨w.heap.size, 0, none⟩ (.slice A S c)).drew) := by
    have := HB4.out
    have h5 : Below w.heap.size w V5 := by rw [← W5.out]; exact Ext.more this _
    exact Ext.draw (h5.setCell (p := ⟨w.heap.size, 0, none⟩) (Nat.le_refl _) _)
  have RF : Rd ((V5.setCell ⟨w.heap.size, 0, none⟩ (.slice A S c)).drew) A (strs (rowsTo L S S)) := by
    have h5 : Chg (fun b => b = w.heap.size ∨ pp ≤ b) V4 (V5.setCell ⟨w.heap.size, 0, none⟩ (.slice A S c)) := by
      have h := C5.out
      have h2 : Chg (fun b => b = w.heap.size ∨ pp ≤ b) V4 V5 := ⟨h.os, h.tape, h.output, h.size, h.block⟩
      exact h2.store (p := ⟨w.heap.size, 0, none⟩) (.inl rfl) _
    have h6 : Chg (fun b => b = w.heap.size ∨ pp ≤ b) V4 ((V5.setCell ⟨w.heap.size, 0, none⟩ (.slice A S c)).drew) := ⟨h5.os, h5.tape, h5.output, h5.size, h5.block⟩
    refine Rd.of_own (h6.own OW.out.1 (fun g hg hh => ?_))
    have q1 := OW.out.1.lt g hg
    have q2 := OW.out.2.1
    have q3 := HPP.out
    omega
  have FIN : Hid (OpRes s t w (.returned (.tuple #[.agg #[.slice A S c], .bool (Y.toList == t.toList)])) ((V5.setCell ⟨w.heap.size, 0, none⟩ (.slice A S c)).drew)) :=
    ⟨A, S, c, by rw [YB.out.1], BF, fun U hU => ⟨S, L, HSS.out, HS.out.symm, rfl, HLL.out, RF, by rw [YB.out.2 U hU]; exact PX.out⟩⟩
  clear BF RF m0 m1 m2 g0 g1 g2
  generalize (Y.toList == t.toList) = β at *
  go_wp2_with fail
  refine bodyPost_ret (v := .tuple #[.agg #[.slice A S c], .bool β]) (by simp [results, Try.results31, go_sem, cs]) rfl FIN.out
end Go.Proofs.Ytogefmkplkddoaa
