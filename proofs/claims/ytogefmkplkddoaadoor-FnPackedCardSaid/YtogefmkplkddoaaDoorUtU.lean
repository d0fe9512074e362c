/- Trees of squares: the program's UnpackTree. -/
import Derived.Test.YtogefmkplkddoaaDoorUtI
namespace Go.Proofs.YtogefmkplkddoaaDoor
open Go.RowKit

def utV (side : Int) (o : Option QT) : Value := match o with
  | some T => .agg #[.int .i64 side, .string ⟨T.txt.toArray⟩]
  | none => .agg #[.int .i64 0, .string ⟨#[]⟩]
def UtRes (side : Int) (s : ByteArray) (w : World) (e : Ending) (w' : World) : Prop :=
  e = .returned (.tuple #[utV side (utO side s), .bool (utB (utO side s))]) ∧ Below w.heap.size w w'
set_option maxRecDepth 100000 in
set_option maxHeartbeats 2000000 in
theorem utI_any (side : Int) (s : ByteArray) (w : World) (hs : s.size ≤ 1048576) : Calls Tryd.prog 33 #[.int .i64 side, .string s] w (UtRes side s w) := by
  have SD := Lib.hid (fun V => sideOkI_any side V)
  have T0 := Blk.made w 45 #[.int .i64 0, .string ⟨#[]⟩]
  have B0 : Below w.heap.size w (w.alloc (.cells #[.int .i64 0, .string ⟨#[]⟩] 45)) := Ext.more (Ext.refl _) _
  cases hsd : sdB side
  · have F : Hid (utO side s = none) := utO_none (fun h => by rw [hsd] at h; exact absurd h.1 (by decide))
    rw [hsd] at SD
    clear hsd
    go_enter Tryd.func33, Tryd.ntmps33
    go_wp2_with fail
    refine (SD.out _).mono ?_
    rintro e w1 ⟨rfl, hb1⟩
    have T1 := T0.under hb1 T0.lt
    have B1 := Ext.then_ B0 hb1
    have c0 := T1.cell 0
    have c1 := T1.cell 1
    have f0 := T1.free 0
    have f1 := T1.free 1
    have hl := T1.lt
    have T2 := (T1.store 0 (.int .i64 0)).store 1 (.string ⟨#[]⟩)
    have c3 := (T1.store 0 (.int .i64 0)).cell 1
    have cs0 := T2.cell 0
    have cs1 := T2.cell 1
    simp at c0 c1 c3 cs0 cs1
    clear T0 T1 T2
    go_wp2_with fail
    refine bodyPost_ret (v := .tuple #[.agg #[.int .i64 0, .string ⟨#[]⟩], .bool false]) (by simp [results, Tryd.results33, go_sem, cs0, cs1]) rfl ⟨by rw [F.out]; rfl, (B1.setCell (p := ⟨w.heap.size, 0, none⟩) (Nat.le_refl _) _).setCell (p := ⟨w.heap.size, 1, none⟩) (Nat.le_refl _) _⟩
  rw [hsd] at SD
  by_cases hbig : 2000 < s.size
  · have F : Hid (utO side s = none) := utO_none (fun h => by omega)
    have q0 : (2000 : Int) < (s.size : Int) := by omega
    clear hsd hbig
    go_enter Tryd.func33, Tryd.ntmps33
    go_wp2_with fail
    refine (SD.out _).mono ?_
    rintro e w1 ⟨rfl, hb1⟩
    have T1 := T0.under hb1 T0.lt
    have B1 := Ext.then_ B0 hb1
    have c0 := T1.cell 0
    have c1 := T1.cell 1
    have f0 := T1.free 0
    have f1 := T1.free 1
    have hl := T1.lt
    have T2 := (T1.store 0 (.int .i64 0)).store 1 (.string ⟨#[]⟩)
    have c3 := (T1.store 0 (.int .i64 0)).cell 1
    have cs0 := T2.cell 0
    have cs1 := T2.cell 1
    simp at c0 c1 c3 cs0 cs1
    clear T0 T1 T2
    go_wp2_with fail
    refine bodyPost_ret (v := .tuple #[.agg #[.int .i64 0, .string ⟨#[]⟩], .bool false]) (by simp [results, Tryd.results33, go_sem, cs0, cs1]) rfl ⟨by rw [F.out]; rfl, (B1.setCell (p := ⟨w.heap.size, 0, none⟩) (Nat.le_refl _) _).setCell (p := ⟨w.heap.size, 1, none⟩) (Nat.le_refl _) _⟩
  obtain ⟨hn4, hsS⟩ := sdB_iff hsd
  have HSD := Lib.hid hsd
  have UP := Lib.hid (fun V => upI_any (sdN side) (2 ^ sdN side) s V (by omega) rfl hn4)
  rw [← hsS] at UP
  have q0 : ¬ (2000 : Int) < (s.size : Int) := by omega
  have HS0 : Hid (s.size ≤ 2000) := by rw [Hid]; omega
  obtain ⟨TX, hTX⟩ : ∃ TX, upA (up (sdN side) s.data.toList) = TX := ⟨_, rfl⟩
  have hsz : TX.size ≤ 1048576 := by
    rw [← hTX]
    cases hu : up (sdN side) s.data.toList with
    | none => simp [upA, ByteArray.size]
    | some z =>
      have h1 := (up_len _ _ z.1 z.2 hu).1
      have h2 : 4 ^ sdN side ≤ 4 ^ 4 := Nat.pow_le_pow_right (by decide) hn4
      have h3 : (upA (some z)).size = z.1.length := by simp [upA, ByteArray.size]
      omega
  have LV := Lib.hid (fun V => leavesOf_any side TX V hsz)
  unfold UqRes at UP
  rw [hTX] at UP
  have HTX := Lib.hid hTX
  clear hsS hbig hs hTX hsd hn4
  by_cases hgood : ∃ a, up (sdN side) s.data.toList = some (a, [])
  case neg =>
    have F : Hid (utO side s = none) := utO_none (fun ⟨_, _, T, h1, h2, h3⟩ => by
      have h4 := up_pk (sdN side) T [] h1
      rw [List.append_nil, h3] at h4
      exact hgood ⟨_, h4⟩)
    have AL : Hid (∀ V e V', LvRes V side TX e V' → Below V.heap.size V V' ∧ ∃ A m c b, e = .returned (.tuple #[.slice A m c, .bool b])) := fun V e V' h => by
      obtain ⟨h1, h2⟩ := h
      refine ⟨h1, ?_⟩
      cases hT : trO side TX with
      | none => rw [hT] at h2; obtain ⟨A, m, c, rfl⟩ := h2; exact ⟨A, m, c, _, rfl⟩
      | some T => rw [hT] at h2; obtain ⟨g, c, rfl, _⟩ := h2; exact ⟨_, _, c, _, rfl⟩
    have FIN : Hid ((up (sdN side) s.data.toList).isSome = false ∨ ((upR (up (sdN side) s.data.toList)).toList == ByteArray.toList ⟨#[]⟩) = false) := by
      cases hu : up (sdN side) s.data.toList with
      | none => exact .inl rfl
      | some z =>
        refine .inr ?_
        rw [beq_eq_false_iff_ne, ByteArray.toList_eq, ByteArray.toList_eq]
        intro h
        have h : z.2 = [] := h
        exact hgood ⟨z.1, by rw [hu, ← h]⟩
    clear hgood HTX
    generalize up (sdN side) s.data.toList = U at *
    obtain ⟨RS, hRS⟩ : ∃ RS, upR U = RS := ⟨_, rfl⟩
    rw [hRS] at UP FIN
    clear hRS
    generalize U.isSome = ok at *
    cases ok
    case' false => clear FIN
    case' true => have he := FIN.out.resolve_left (by decide)
    case' true => have he : RS.toList.isEmpty = false := (by cases h : RS.toList with | nil => rw [h, ByteArray.toList_eq] at he; exact absurd he (by decide) | cons a l => rfl)
    case' true => clear FIN
    all_goals
      go_enter Tryd.func33, Tryd.ntmps33
      go_wp2_with fail
      refine (SD.out _).mono ?_
      rintro e w1 ⟨rfl, hb1⟩
      have T1 := T0.under hb1 T0.lt
      have B1 := Ext.then_ B0 hb1
      go_wp2_with fail
      refine (UP.out _).mono ?_
      rintro e w2 ⟨rfl, hb2⟩
      have T2 := T1.under hb2 T1.lt
      have B2 := Ext.then_ B1 hb2
      have K2 := Blk.made w2 45 #[.int .i64 side, .string TX]
      have T3 := T2.more (.cells #[.int .i64 side, .string TX] 45)
      have B3 : Below w.heap.size w (w2.alloc (.cells #[.int .i64 side, .string TX] 45)) := Ext.more B2 _
      have l2 := T2.lt
      go_wp2_with fail
      refine (LV.out _).mono ?_
      rintro e w4 hlv
      obtain ⟨hb4, A, m, c, b, rfl⟩ := AL.out _ _ _ hlv
      have T4 := T3.under hb4 T3.lt
      have K4 := K2.under hb4 K2.lt
      have B4 := Ext.then_ B3 hb4
      have k0 := K4.cell 0
      have k1 := K4.cell 1
      have c0 := T4.cell 0
      have c1 := T4.cell 1
      have f0 := T4.free 0
      have f1 := T4.free 1
      have hl := T4.lt
      have c3 := (T4.store 0 (.int .i64 0)).cell 1
      have cs0 := ((T4.store 0 (.int .i64 0)).store 1 (.string ⟨#[]⟩)).cell 0
      have cs1 := ((T4.store 0 (.int .i64 0)).store 1 (.string ⟨#[]⟩)).cell 1
      simp at c0 c1 c3 cs0 cs1 k0 k1
      clear T0 T1 T2 T3 T4 K2 K4 hlv
      go_wp2_with fail
      refine bodyPost_ret (v := .tuple #[.agg #[.int .i64 0, .string ⟨#[]⟩], .bool false]) (by simp [results, Tryd.results33, go_sem, cs0, cs1]) rfl ⟨by rw [F.out]; rfl, (B4.setCell (p := ⟨w.heap.size, 0, none⟩) (Nat.le_refl _) _).setCell (p := ⟨w.heap.size, 1, none⟩) (Nat.le_refl _) _⟩
  obtain ⟨a, hup⟩ := hgood
  rw [hup] at UP HTX
  simp only [upR, Option.isSome_some] at UP
  cases hT : trO side TX with
  | none =>
    have F : Hid (utO side s = none) := utO_none (fun ⟨_, _, T, h1, h2, h3⟩ => by
      have h4 := up_pk (sdN side) T [] h1
      rw [List.append_nil, h3, hup] at h4
      have h5 : a = T.txt := by simpa using h4
      have h6 := HTX.out
      rw [trO_of HSD.out (T := T) (by rw [← h6, ← h5]; simp [upA]) h1 h2] at hT
      cases hT)
    clear HTX hup
    go_enter Tryd.func33, Tryd.ntmps33
    go_wp2_with fail
    refine (SD.out _).mono ?_
    rintro e w1 ⟨rfl, hb1⟩
    have T1 := T0.under hb1 T0.lt
    have B1 := Ext.then_ B0 hb1
    go_wp2_with fail
    refine (UP.out _).mono ?_
    rintro e w2 ⟨rfl, hb2⟩
    have T2 := T1.under hb2 T1.lt
    have B2 := Ext.then_ B1 hb2
    have K2 := Blk.made w2 45 #[.int .i64 side, .string TX]
    have T3 := T2.more (.cells #[.int .i64 side, .string TX] 45)
    have B3 : Below w.heap.size w (w2.alloc (.cells #[.int .i64 side, .string TX] 45)) := Ext.more B2 _
    have l2 := T2.lt
    go_wp2_with fail
    refine (LV.out _).mono ?_
    rintro e w4 hlv
    unfold LvRes at hlv
    rw [hT] at hlv
    obtain ⟨hb4, A, m, c, rfl⟩ := hlv
    have T4 := T3.under hb4 T3.lt
    have K4 := K2.under hb4 K2.lt
    have B4 := Ext.then_ B3 hb4
    have k0 := K4.cell 0
    have k1 := K4.cell 1
    have c0 := T4.cell 0
    have c1 := T4.cell 1
    have f0 := T4.free 0
    have f1 := T4.free 1
    have hl := T4.lt
    have c3 := (T4.store 0 (.int .i64 0)).cell 1
    have cs0 := ((T4.store 0 (.int .i64 0)).store 1 (.string ⟨#[]⟩)).cell 0
    have cs1 := ((T4.store 0 (.int .i64 0)).store 1 (.string ⟨#[]⟩)).cell 1
    simp at c0 c1 c3 cs0 cs1 k0 k1
    clear T0 T1 T2 T3 T4 K2 K4 hT
    go_wp2_with fail
    refine bodyPost_ret (v := .tuple #[.agg #[.int .i64 0, .string ⟨#[]⟩], .bool false]) (by simp [results, Tryd.results33, go_sem, cs0, cs1]) rfl ⟨by rw [F.out]; rfl, (B4.setCell (p := ⟨w.heap.size, 0, none⟩) (Nat.le_refl _) _).setCell (p := ⟨w.heap.size, 1, none⟩) (Nat.le_refl _) _⟩
  | some T =>
    have PK := pk_of hT 0 0 ByteArray.empty
    have few := lf_few hT 0 0 ByteArray.empty
    obtain ⟨_, t2, t3, t4⟩ := trO_facts hT
    have PT := fun (g c : Nat) (V : World) (h1 : g < V.heap.size) h2 => packTree_any side TX (T.lf (sdN side) 0 0 ByteArray.empty) g c V hsz (by omega) h1 h2 PK.2
    rw [PK.1] at PT
    have LF : Hid ((T.lf (sdN side) 0 0 ByteArray.empty).length ≤ 256) := few
    have AG : Hid (((⟨(T.pk (sdN side)).toArray⟩ : ByteArray).toList == s.toList) = utB (utO side s) ∧ (utB (utO side s) = true → utO side s = some T) ∧ (utB (utO side s) = false → utO side s = none)) := by
      have ea : a = T.txt := by
        rw [← t2, ← HTX.out]; simp [upA]
      by_cases he : T.pk (sdN side) = s.data.toList
      · have hs := utO_some HSD.out HS0.out t3 t4 he
        refine ⟨?_, fun _ => hs, fun h => by rw [hs] at h; cases h⟩
        rw [hs, show utB (some T) = true from rfl, beq_iff_eq, ByteArray.toList_eq, ByteArray.toList_eq]
        exact he
      · have hs : utO side s = none := utO_none (fun ⟨_, _, T', h1, h2, h3⟩ => by
          have h4 := up_pk (sdN side) T' [] h1
          rw [List.append_nil, h3, hup] at h4
          have h5 : a = T'.txt := by simpa using h4
          exact he (by rw [txt_inj t3 h1 (by rw [← ea, h5])]; exact h3))
        refine ⟨?_, fun h => (by rw [hs] at h; cases h), fun _ => hs⟩
        rw [hs, show utB none = false from rfl, beq_eq_false_iff_ne, ByteArray.toList_eq, ByteArray.toList_eq]
        exact he
    have HP := Lib.hid PT
    have TT := Lib.hid t2
    clear PK few PT hup HTX t2 t3 t4
    generalize (⟨(T.pk (sdN side)).toArray⟩ : ByteArray) = PB at *
    obtain ⟨rb, hrb⟩ : ∃ rb, utB (utO side s) = rb := ⟨_, rfl⟩
    rw [hrb] at AG
    have hcmp := AG.out.1
    have hAG := Lib.hid AG.out.2
    have hrb := Lib.hid hrb
    clear AG
    cases rb
    · have F := Lib.hid (hAG.out.2 rfl)
      go_enter Tryd.func33, Tryd.ntmps33
      go_wp2_with fail
      refine (SD.out _).mono ?_
      rintro e w1 ⟨rfl, hb1⟩
      have T1 := T0.under hb1 T0.lt
      have B1 := Ext.then_ B0 hb1
      go_wp2_with fail
      refine (UP.out _).mono ?_
      rintro e w2 ⟨rfl, hb2⟩
      have T2 := T1.under hb2 T1.lt
      have B2 := Ext.then_ B1 hb2
      have K2 := Blk.made w2 45 #[.int .i64 side, .string TX]
      have T3 := T2.more (.cells #[.int .i64 side, .string TX] 45)
      have B3 : Below w.heap.size w (w2.alloc (.cells #[.int .i64 side, .string TX] 45)) := Ext.more B2 _
      have l2 := T2.lt
      go_wp2_with fail
      refine (LV.out _).mono ?_
      rintro e w4 hlv
      unfold LvRes at hlv
      rw [hT] at hlv
      obtain ⟨hb4, g, c, rfl, ho⟩ := hlv
      have HPT := Lib.hid (HP.out g c w4 (ho.lt g rfl).2 (fun j u hu => by
        have := ho.cells (g := g) rfl j u hu
        rwa [Addr.add_lit, Nat.zero_add] at this))
      have T4 := T3.under hb4 T3.lt
      have K4 := K2.under hb4 K2.lt
      have B4 := Ext.then_ B3 hb4
      have k0 := K4.cell 0
      have k1 := K4.cell 1
      simp at k0 k1
      have hl := T4.lt
      clear T0 T1 T2 T3 K2 hT ho HP LV
      generalize (T.lf (sdN side) 0 0 ByteArray.empty).length = m at *
      go_wp2_with fail
      refine (HPT.out).mono ?_
      rintro e w5 ⟨rfl, hb5⟩
      have B4 := Ext.then_ B4 hb5
      have T4 := T4.under hb5 hl
      have K4 := K4.under hb5 K4.lt
      have k0 := K4.cell 0
      have k1 := K4.cell 1
      have c0 := T4.cell 0
      have c1 := T4.cell 1
      have f0 := T4.free 0
      have f1 := T4.free 1
      have hl := T4.lt
      have c3 := (T4.store 0 (.int .i64 0)).cell 1
      have cs0 := ((T4.store 0 (.int .i64 0)).store 1 (.string ⟨#[]⟩)).cell 0
      have cs1 := ((T4.store 0 (.int .i64 0)).store 1 (.string ⟨#[]⟩)).cell 1
      simp at c0 c1 c3 cs0 cs1 k0 k1
      clear T4 K4
      go_wp2_with fail
      refine bodyPost_ret (v := .tuple #[.agg #[.int .i64 0, .string ⟨#[]⟩], .bool false]) (by simp [results, Tryd.results33, go_sem, cs0, cs1]) rfl ⟨by rw [F.out]; rfl, (B4.setCell (p := ⟨w.heap.size, 0, none⟩) (Nat.le_refl _) _).setCell (p := ⟨w.heap.size, 1, none⟩) (Nat.le_refl _) _⟩
    · have F := Lib.hid (hAG.out.1 rfl)
      go_enter Tryd.func33, Tryd.ntmps33
      go_wp2_with fail
      refine (SD.out _).mono ?_
      rintro e w1 ⟨rfl, hb1⟩
      have T1 := T0.under hb1 T0.lt
      have B1 := Ext.then_ B0 hb1
      go_wp2_with fail
      refine (UP.out _).mono ?_
      rintro e w2 ⟨rfl, hb2⟩
      have T2 := T1.under hb2 T1.lt
      have B2 := Ext.then_ B1 hb2
      have K2 := Blk.made w2 45 #[.int .i64 side, .string TX]
      have T3 := T2.more (.cells #[.int .i64 side, .string TX] 45)
      have B3 : Below w.heap.size w (w2.alloc (.cells #[.int .i64 side, .string TX] 45)) := Ext.more B2 _
      have l2 := T2.lt
      go_wp2_with fail
      refine (LV.out _).mono ?_
      rintro e w4 hlv
      unfold LvRes at hlv
      rw [hT] at hlv
      obtain ⟨hb4, g, c, rfl, ho⟩ := hlv
      have HPT := Lib.hid (HP.out g c w4 (ho.lt g rfl).2 (fun j u hu => by
        have := ho.cells (g := g) rfl j u hu
        rwa [Addr.add_lit, Nat.zero_add] at this))
      have T4 := T3.under hb4 T3.lt
      have K4 := K2.under hb4 K2.lt
      have B4 := Ext.then_ B3 hb4
      have k0 := K4.cell 0
      have k1 := K4.cell 1
      simp at k0 k1
      have hl := T4.lt
      clear T0 T1 T2 T3 K2 hT ho HP LV
      generalize (T.lf (sdN side) 0 0 ByteArray.empty).length = m at *
      go_wp2_with fail
      refine (HPT.out).mono ?_
      rintro e w5 ⟨rfl, hb5⟩
      have B4 := Ext.then_ B4 hb5
      have T4 := T4.under hb5 hl
      have K4 := K4.under hb5 K4.lt
      have k0 := K4.cell 0
      have k1 := K4.cell 1
      have c0 := T4.cell 0
      have c1 := T4.cell 1
      have f0 := T4.free 0
      have f1 := T4.free 1
      have hl := T4.lt
      have c3 := (T4.store 0 (.int .i64 side)).cell 1
      have cs0 := ((T4.store 0 (.int .i64 side)).store 1 (.string TX)).cell 0
      have cs1 := ((T4.store 0 (.int .i64 side)).store 1 (.string TX)).cell 1
      simp at c0 c1 c3 cs0 cs1 k0 k1
      clear T4 K4
      go_wp2_with fail
      refine bodyPost_ret (v := .tuple #[.agg #[.int .i64 side, .string TX], .bool true]) (by simp [results, Tryd.results33, go_sem, cs0, cs1]) rfl ⟨?_, (B4.setCell (p := ⟨w.heap.size, 0, none⟩) (Nat.le_refl _) _).setCell (p := ⟨w.heap.size, 1, none⟩) (Nat.le_refl _) _⟩
      have e2 : TX = ⟨T.txt.toArray⟩ := by
        apply ByteArray.ext
        rw [← TT.out]
      rw [F.out, e2]; rfl
end Go.Proofs.YtogefmkplkddoaaDoor
