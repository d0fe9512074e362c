/- The program's visit of the parts of a picture: its walk. -/
import Derived.Test.YtdhajndmebnknaaGreatTopE
import Derived.Deep.LoopGhost
namespace Go.Proofs.YtdhajndmebnknaaGreat
open Go.RowKit

/-- What a visit of a part answers, in memory. -/
def BlRes (P : Pc) (o : Option Cell) (a : Cell) (s0 : Cell → Bool) (n M : Nat) (w : World) (e : Ending) (w' : World) : Prop :=
  ∃ c d s, e = .returned (.tuple #[.string ⟨List.toArray c⟩, .int .i64 (d : Nat)]) ∧ P.Ta o a s0 n c d s ∧ MapF spV spOk w' M (bs s) ∧ Chg (fun b => b = M ∨ w.heap.size ≤ b) w w'
/-- A neighbour's part has been found, if it is one that is looked for. -/
def Fnd (P : Pc) (o : Option Cell) (a : Cell) (K : List Kid) (q : Cell) : Prop := P.has q → P.col q ≠ P.col a → ¬ P.SameO o q → ∃ e ∈ K, P.Same e.1 q
theorem Fnd.more {P : Pc} {o : Option Cell} {a q : Cell} {K : List Kid} (h : Fnd P o a K q) (e : Kid) : Fnd P o a (K ++ [e]) q := fun h1 h2 h3 => by
  obtain ⟨x, hx, hs⟩ := h h1 h2 h3
  exact ⟨x, List.mem_append.2 (.inl hx), hs⟩
/-- All neighbours of the pixels that the range has left behind. -/
def Dne (P : Pc) (o : Option Cell) (a : Cell) (left : Cell → Bool) (K : List Kid) : Prop := ∀ x q, P.Same a x → left x = false → A4 x q → Fnd P o a K q
theorem Dne.more {P : Pc} {o : Option Cell} {a : Cell} {left : Cell → Bool} {K : List Kid} (h : Dne P o a left K) (e : Kid) : Dne P o a left (K ++ [e]) := fun x q h1 h2 h3 => (h x q h1 h2 h3).more e
theorem ne_notT {a b : Bool} (h : ¬ a = b) : a = !b := by cases a <;> cases b <;> simp_all
set_option maxRecDepth 100000 in
set_option maxHeartbeats 8000000 in
theorem visitI_any (p g W H : Nat) (L : List Bool) (hW : W ≤ 18) (hH : H ≤ 18) : ∀ (n : Nat), n ≤ 400 → ∀ (o : Option Cell) (a : Cell) (s0 pf : Cell → Bool) (M B : Nat) (w : World), Img w p g W H L → MapF spV spOk w B (bs pf) → MapF spV spOk w M (bs s0) → B ≠ M →
    (∀ z, pf z = true ↔ (pcI L W H).Same a z) → (pcI L W H).Vp o a (fun z => s0 z = true) → W * H + 1 ≤ n + (pcI L W H).cnt s0 →
    Calls Tryz.prog 71 #[.pointer (some ⟨p, 0, none⟩), .map (some B), .bool ((pcI L W H).col a), .map (some M)] w (BlRes (pcI L W H) o a s0 n M w) := by
  have hWH : W * H ≤ 324 := Nat.le_trans (Nat.mul_le_mul hW hH) (by decide)
  intro n
  induction n with
  | zero =>
    intro _ o a s0 pf M B w _ _ _ _ _ _ hf
    have : (pcI L W H).cnt s0 ≤ W * H := cnt_all
    omega
  | succ n ih =>
    intro hn o a s0 pf M B w hI hPm hSm hBM hpf hV hfuel
    have IH := Lib.hid (ih (by omega))
    obtain ⟨P, hP⟩ : ∃ P, pcI L W H = P := ⟨_, rfl⟩
    have HP := Lib.hid hP
    rw [hP] at hpf hV hfuel ⊢
    have T0 := Lib.hid (Pc.Ts.start (n := n) hV)
    have hHas : Hid (∀ z, P.has z ↔ hasB W H z.1 z.2 = true) := fun z => by rw [← HP.out]; exact has_iff
    have hCol : Hid (∀ z, P.col z = bit L W H z.1 z.2) := fun z => by rw [← HP.out]; rfl
    have HPF := Lib.hid hpf
    have HFU := Lib.hid hfuel
    have HV := Lib.hid hV
    obtain ⟨c, hc⟩ : ∃ c, P.col a = c := ⟨_, rfl⟩
    have HC := Lib.hid hc
    rw [hc]
    have CB := Lib.hid (fun s => cnt_all (P := P) (s := s))
    have z1 : ((w.alloc (.cells #[.pointer (some ⟨p, 0, none⟩)] 47)).alloc (.cells #[.bool c] 4)).heap.size = w.heap.size + 2 := by simp
    have E1 : Below w.heap.size w ((w.alloc (.cells #[.pointer (some ⟨p, 0, none⟩)] 47)).alloc (.cells #[.bool c] 4)) := Ext.more (Ext.more (Ext.refl _) _) _
    have X4 := (Blk.made w 47 #[.pointer (some ⟨p, 0, none⟩)]).more (.cells #[.bool c] 4)
    have X6 := Blk.made (w.alloc (.cells #[.pointer (some ⟨p, 0, none⟩)] 47)) 4 #[.bool c]
    rw [World.size_alloc] at X6
    obtain ⟨w1, hw1⟩ : ∃ w1, (w.alloc (.cells #[.pointer (some ⟨p, 0, none⟩)] 47)).alloc (.cells #[.bool c] 4) = w1 := ⟨_, rfl⟩
    rw [hw1] at z1 E1 X4 X6
    have HW1 := Lib.hid hw1
    have E2 := Ext.more E1 (.cells #[] 9)
    have R0 := own_base (World.ownsRow_lit (e := 9) (size := 1) w1 #[] 0 (Nat.le_refl _) (by decide) rfl) E1.size
    have X4' := X4.more (.cells #[] 9)
    have X6' := X6.more (.cells #[] 9)
    rw [z1] at R0
    obtain ⟨w2, hw2⟩ : ∃ w2, w1.alloc (.cells #[] 9) = w2 := ⟨_, rfl⟩
    have z2 : w2.heap.size = w.heap.size + 3 := by rw [← hw2]; simp [z1]
    rw [hw2] at E2 R0 X4' X6'
    have HW2 := Lib.hid hw2
    have J0 : Hid (∀ w3 cnt, RngF spV spOk w3 B w2.heap.size (bs pf) (fun z => (bs pf z).isSome) cnt → Below w2.heap.size w2 w3 → TpJ w M B w.heap.size (w.heap.size + 1) p g W H w2.heap.size (w.heap.size + 2) 0 L c pf s0 (fun z => (bs pf z).isSome) cnt [] w3) := fun w3 cnt hr hb => by
      have E3 := Ext.then_ E2 hb
      refine ⟨hI.ext E3, X4'.under hb (by omega), X6'.under hb (by omega), hSm.ext E3, hr, own_ext hb R0, ?_, hI.hdr.lt, hI.bits.lt, hPm.lt, hSm.lt, Nat.le_refl _, by omega, by omega, hBM, by omega, by omega, by omega, by omega, by omega⟩
      exact (Chg.of_below E3).mono (fun k hk => .inr hk)
    have PM2 := Lib.hid (hPm.ext E2)
    have SQ := Lib.hid z2
    clear z2 hw1 hw2 hI hPm hSm hpf hV hfuel hP hc ih X4 X6 X4' X6' R0 E1 E2
    go_enter Tryz.func71, Tryz.ntmps71
    go_upto_region 1 with fail
    try simp only [HW1.out]
    go_upto_region 2 with fail
    try simp only [HW2.out]
    go_wp2_with (at_range; refine wpList_rangeF spotK _ (by rfl) _ _ (by rfl) Tryz.underlying82 (by rfl) PM2.out ?_; intro w3 cnt hrg hb3 hz3)
    go_frame
    have JJ := Lib.hid (J0.out w3 cnt hrg hb3)
    have DD : Hid (Dne P o a (fun z => (bs pf z).isSome) []) := fun x q hx hl _ => by
      have := (HPF.out x).2 hx
      simp [bs, this] at hl
    clear hrg hb3 J0 PM2 z1
    go_loopg [10, 11, 12, 14, 15, 16, 17, 18] cnt (fun k s10 s11 _ _ _ _ _ _ wx => ∃ (left s : Cell → Bool) (K : List Kid) (gc cc : Nat), s10 = .slice (some ⟨gc, 0, none⟩) K.length cc ∧ s11 = .int .i64 (deepC (K.map fun e => e.2.2) : Nat) ∧
      TpJ w M B w.heap.size (w.heap.size + 1) p g W H w2.heap.size gc cc L c pf s left k K wx ∧ Hid (P.Ts o a s0 n K s) ∧ Hid (Dne P o a left K))
    case atStart => exact ⟨_, s0, [], _, _, rfl, rfl, JJ.out, T0, DD⟩
    case round =>
      obtain ⟨left, s, K, gc, cc, rfl, rfl, J, T, D⟩ := hrel
      clear JJ T0 DD
      obtain ⟨gn, hgn⟩ : ∃ gn, gn = gk := ⟨_, rfl⟩
      rw [← hgn] at J
      have fw := T.out.few
      have cb := CB.out s
      have hrng := J.rng
      have HJ := Lib.hid J
      clear J
      go_wp2_with (at_next; refine wpList_nextF spotK _ (by rfl) _ (by rfl) (by rfl) hrng ?_ ?_)
      · intro hl0
        have TA := Lib.hid (T.out.done (fun x q hx hxq h1 h2 h3 => D.out x q hx (by obtain ⟨x1, x2⟩ := x; exact hl0 x1 x2) hxq h1 h2 h3))
        have row := HJ.out.row
        rw [kcV_enc] at row
        have hkl : (K.map fun e => e.2.1).length = K.length := List.length_map ..
        have hK9 : K.length ≤ 324 := by have : P.W * P.H ≤ 324 := by rw [← HP.out]; exact hWH
                                        omega
        have wl := wrap_len (K.map fun e => e.2.1)
        have hcap : K.length ≤ cc := by
          rcases row.2 with ⟨h, _⟩ | ⟨g', cap', cur, h, _, _, hcc, _⟩
          · cases h
          · simp only [Value.slice.injEq] at h
            obtain ⟨_, _, rfl⟩ := h
            exact hcc
        have tl := T.out.len
        have cb2 := CB.out s
        have P324 : P.W * P.H ≤ 324 := by rw [← HP.out]; exact hWH
        have fl : (srtC (K.map fun e => e.2.1)).flatten.length ≤ 700 := by
          have e1 : (wrapC (K.map fun e => e.2.1)).length = (srtC (K.map fun e => e.2.1)).flatten.length + 2 := by simp [wrapC]
          have e2 : ((K.map fun e => e.2.1).map List.length) = K.map fun e => e.2.1.length := by simp [Function.comp_def]
          rw [e2] at wl
          omega
        have SO := Lib.hid (sortT_any wr row hkl (by omega))
        have JO := Lib.hid (fun V (hr : V.ownsRow w.heap.size 9 1 (.slice (some ⟨gc, 0, none⟩) K.length cc) K.length ((srtC (K.map fun e => e.2.1)).map encStr)) => joinT_any V hr (by rw [(srt_perm _).length_eq]; exact hkl) (by omega) hcap (by omega))
        have WR : Hid (ByteArray.mk #[40] ++ ByteArray.mk (srtC (K.map fun e => e.2.1)).flatten.toArray ++ ByteArray.mk #[41] = ⟨(wrapC (K.map fun e => e.2.1)).toArray⟩) := by
          rw [Hid]
          apply ByteArray.ext
          simp [wrapC]
        have FS : (ByteArray.mk (srtC (K.map fun e => e.2.1)).flatten.toArray).size = (srtC (K.map fun e => e.2.1)).flatten.length := by simp [ByteArray.size]
        have HSN := HJ.out.seen
        have HCG := HJ.out.chg
        have gne := HJ.out.ne
        have gM := HJ.out.hM
        have gl := (row.lt gc rfl).1
        have HX := Lib.hid (fun V (hg : wr.grownBy V (some gc)) => And.intro (HSN.chgM (Chg.of_rowT hg) (by simp; omega)) (HCG.trans ((Chg.of_rowT hg).mono (fun b hb => .inr (by obtain rfl := Option.some.inj hb; exact gl)))))
        generalize deepC (K.map fun e => e.2.2) = dp at *
        generalize wrapC (K.map fun e => e.2.1) = wc at *
        generalize srtC (K.map fun e => e.2.1) = sc at *
        have sz1 : ¬ 9223372036854775807 < 1 + (ByteArray.mk sc.flatten.toArray).size := by omega
        have sz2 : ¬ 9223372036854775807 < 1 + (ByteArray.mk sc.flatten.toArray).size + 1 := by omega
        generalize ByteArray.mk sc.flatten.toArray = fb at *
        clear row HSN HCG gne gM gl HJ hrng wl tl cb2 fl hkl hK9 hcap fw cb FS
        go_wp2_with fail
        refine SO.out.mono ?_
        rintro e w8 ⟨rfl, row8, hg8⟩
        have J8 := Lib.hid (JO.out w8 row8)
        obtain ⟨m8, c8⟩ := HX.out w8 hg8
        have M8 := Lib.hid m8
        have C8 := Lib.hid c8
        clear row8 m8 c8 SO JO HX
        go_wp2_with fail
        refine J8.out.mono ?_
        rintro e w9 ⟨rfl, hb9⟩
        have M9 := M8.out.ext hb9
        have C9 : Chg (fun b => b = M ∨ w.heap.size ≤ b) w w9 := C8.out.trans ((Chg.of_below hb9).mono (fun k hk => .inr (by have := C8.out.size; omega)))
        go_wp2_with fail
        go_ret2
        exact ⟨wc, dp, s, by rw [← WR.out]; rfl, TA.out, M9, C9⟩
      · intro a1 a2 v w7 cnt1 left' ha hla hfa hl' hrg1 hltc hg7 hz7 hen
        have hpa : pf (a1, a2) = true := by
          cases h : pf (a1, a2) with
          | true => rfl
          | false => simp [bs, h] at hfa
        have HSA := Lib.hid ((HPF.out (a1, a2)).1 hpa)
        have hb1 := hasB_iff.1 ((hHas.out _).1 HSA.out.hasR)
        simp only at hb1
        obtain ⟨⟨x1, x2⟩, x3, x4⟩ := hb1
        have HL : Hid (∀ b, left' b = true ↔ left b = true ∧ b ≠ (a1, a2)) := fun b => by
          obtain ⟨b1, b2⟩ := b
          rw [hl' b1 b2]
          simp
        have D7 : Hid (∀ x q, P.Same a x → x ≠ (a1, a2) → left' x = false → A4 x q → Fnd P o a K q) := fun x q h1 h2 h3 h4 => D.out x q h1 (by
          cases h : left x with
          | false => rfl
          | true => rw [(HL.out x).2 ⟨h, h2⟩] at h3; cases h3) h4
        have QA : Hid (spOk (a1, a2)) := ha
        have J7 := Lib.hid (HJ.out.next hg7 hrg1)
        have e : spV (a1, a2) = .agg #[.int .i64 a1, .int .i64 a2] := rfl
        rw [e] at hen ⊢
        have EX := Ext.more (Ext.refl w7) (.cells #[.int .i64 a1, .int .i64 a2] 38)
        have J8 := Lib.hid (J7.out.step EX)
        have k15 : (w7.alloc (.cells #[.int .i64 a1, .int .i64 a2] 38)).cell? ⟨w7.heap.size, 0, none⟩ = some (.int .i64 a1) := cell_new w7 _ _ 0
        have l15 : (w7.alloc (.cells #[.int .i64 a1, .int .i64 a2] 38)).cell? ⟨w7.heap.size, 1, none⟩ = some (.int .i64 a2) := cell_new w7 _ _ 1
        have AR := Lib.hid (fun V => nbT_four.call a1 a2 V (by omega) (by omega))
        clear D hl' hla hfa ha hg7 hrg1 e HL hrng HJ hpa
        go_wp2_with fail
        refine (AR.out _).mono ?_
        rintro e w9 ⟨ga, ca, rfl, hrow, hb9⟩
        have J9 := Lib.hid (J8.out.step hb9)
        have SA := own_spots hrow rfl
        have hga := (hrow.lt ga rfl).1
        have hgc : gc ≠ ga ∧ w.heap.size ≤ ga := by
          have h1 := (J8.out.row.lt gc rfl)
          exact ⟨by omega, by omega⟩
        clear hrow hb9 k15 l15 hen J7 J8 EX AR hga
        have F0 : Hid (∀ i, i < 0 → Fnd P o a K ((nbF (a1, a2)).getD i (0, 0))) := fun i hi => absurd hi (Nat.not_lt_zero _)
        have NL : (nbF (a1, a2)).length = 4 := rfl
        have NM : Hid (∀ q, q ∈ nbF (a1, a2) ↔ A4 (a1, a2) q) := fun q => mem_nbF
        obtain ⟨nl, hnl⟩ : ∃ nl, nbF (a1, a2) = nl := ⟨_, rfl⟩
        rw [hnl] at SA F0 NM NL
        have HNL := Lib.hid NL
        clear hnl NL fw cb
        go_wp2_with fail
        go_loopw [10, 11, 14, 15, 16, 17, 18, 32] (fun s10 s11 _ _ _ _ _ s32 wx => ∃ (j : Nat) (s : Cell → Bool) (K : List Kid) (gc cc : Nat), j ≤ 4 ∧ s32 = .int .i64 j ∧ s10 = .slice (some ⟨gc, 0, none⟩) K.length cc ∧ s11 = .int .i64 (deepC (K.map fun e => e.2.2) : Nat) ∧
          TpJ w M B w.heap.size (w.heap.size + 1) p g W H w2.heap.size gc cc L c pf s left' cnt1 K wx ∧ SpAt wx ga nl ∧ gc ≠ ga ∧ Hid (P.Ts o a s0 n K s) ∧ Hid (∀ x q, P.Same a x → x ≠ (a1, a2) → left' x = false → A4 x q → Fnd P o a K q) ∧ Hid (∀ i, i < j → Fnd P o a K (nl.getD i (0, 0)))) (fun _ _ _ _ _ _ _ s32 _ => 4 - (intOf s32).toNat)
        case atStart => exact ⟨0, s, K, gc, cc, by omega, rfl, rfl, rfl, J9.out, SA, hgc.1, T, D7, F0⟩
        case round =>
          obtain ⟨j, s, K, gc, cc, hj, rfl, rfl, rfl, J, SA, hne, T, D, F⟩ := hrel
          obtain ⟨wv, hwv⟩ : ∃ wv, wv = wr := ⟨_, rfl⟩
          by_cases hj4 : j < 4
          · have hjl : j < nl.length := by rw [HNL.out]; exact hj4
            obtain ⟨c1, c2⟩ := SA.2 j hjl
            have lga := SA.1
            have qe : nl.getD j (0, 0) = nl[j] := by rw [List.getD_eq_getElem?_getD, List.getElem?_eq_getElem hjl]; rfl
            have qA := (NM.out _).1 (List.getElem_mem hjl)
            have FN : Hid (∀ K', (∀ i, i < j → Fnd P o a K' (nl.getD i (0, 0))) → Fnd P o a K' nl[j] → ∀ i, i < j + 1 → Fnd P o a K' (nl.getD i (0, 0))) := fun K' h1 h2 i hi => by
              rcases Nat.lt_succ_iff_lt_or_eq.1 hi with h | rfl
              · exact h1 i h
              · rw [qe]; exact h2
            clear qe
            generalize nl[j] = q at *
            obtain ⟨qx, qy⟩ := q
            simp only at c1 c2
            have QB : (-100 ≤ qx ∧ qx ≤ 100) ∧ -100 ≤ qy ∧ qy ≤ 100 := by
              unfold A4 at qA; simp only at qA; omega
            obtain ⟨⟨qb1, qb2⟩, qb3, qb4⟩ := QB
            have QK : Hid (spOk (qx, qy)) := ⟨by simp only; omega, by simp only; omega⟩
            have i0 : (0 : Int) ≤ (j : Int) := by omega
            have i1 : (j : Int) < 4 := by omega
            have EX := Ext.more (Ext.refl wr) (.cells #[.int .i64 qx, .int .i64 qy] 38)
            have JX := J.step EX
            have SX := SA.ext EX
            have k13 : (wr.alloc (.cells #[.int .i64 qx, .int .i64 qy] 38)).cell? ⟨wr.heap.size, 0, none⟩ = some (.int .i64 qx) := cell_new wr _ _ 0
            have l13 : (wr.alloc (.cells #[.int .i64 qx, .int .i64 qy] 38)).cell? ⟨wr.heap.size, 1, none⟩ = some (.int .i64 qy) := cell_new wr _ _ 1
            have zX : wr.heap.size < (wr.alloc (.cells #[.int .i64 qx, .int .i64 qy] 38)).heap.size := by simp
            obtain ⟨wX, hwX⟩ : ∃ wX, wr.alloc (.cells #[.int .i64 qx, .int .i64 qy] 38) = wX := ⟨_, rfl⟩
            rw [hwX] at JX SX k13 l13 zX
            have HWX := Lib.hid hwX
            have b4 := JX.bx4.cell 0
            have b6 := JX.bx6.cell 0
            simp at b4 b6
            have LK0 : Hid (∀ k, (Instr.lookup 82 (.map (some M)) (.agg #[.int .i64 qx, .int .i64 qy]) false).run Tryz.prog (wX.drewN k) = .ok (.bool (s (qx, qy))) (wX.drewN k)) := fun k => by
              have := (MapF.drewN JX.seen k).lookup spotK Tryz.underlying82 (zeroBool' _) (qx, qy) QK.out false
              rw [bs_get] at this
              exact this
            have HK := Lib.hid (fun k => has_any p g W H L qx qy (wX.drewN k) (JX.img.drewN k) (by omega) (by omega))
            have GK := Lib.hid (fun k => get_any p g W H L qx qy (wX.drewN k) (JX.img.drewN k) (by omega) (by omega))
            have HJX := Lib.hid JX
            have HSX := Lib.hid SX
            have HQA := Lib.hid qA
            have SKIP : Hid (s (qx, qy) = true → Fnd P o a K (qx, qy)) := fun h h1 h2 h3 => T.out.vi.skip HSA.out h1 HQA.out h2 h3 h
            clear hwX J SA EX JX SX qA
            go_upto_region 8 with fail
            try simp only [HWX.out]
            cases hs : s (qx, qy)
            case true =>
              have FN2 := Lib.hid (FN.out K F.out (SKIP.out hs))
              have LK := fun k => LK0.out k
              rw [hs] at LK
              clear hs LK0 SKIP FN
              go_quiet (fail)
              have J10 := HJX.out.step (Ext.drawN (Ext.refl _) nq)
              have S10 := HSX.out.ext (Ext.drawN (Ext.refl _) nq)
              clear LK k13 l13 b4 b6
              go_wp2_with fail
              go_roundw
              case rel => exact ⟨j + 1, s, K, gc, cc, by omega, by go_num, rfl, rfl, J10, S10, hne, T, D, FN2.out⟩
              case measure => simp [intOf]; omega
            have LK := fun k => LK0.out k
            rw [hs] at LK
            clear LK0 SKIP
            cases hh : hasB W H qx qy
            case false =>
              have FN2 := Lib.hid (FN.out K F.out (fun h1 _ _ => by have := (hHas.out _).1 h1; rw [hh] at this; cases this))
              rw [hh] at HK
              clear FN hh
              go_quiet ((go_at_call 35; exact Calls.quiet_of_same ((HK.out _).mono fun _ _ ⟨h, k⟩ => ⟨h, k.symm⟩)))
              have J10 := HJX.out.step (Ext.drawN (Ext.refl _) nq)
              have S10 := HSX.out.ext (Ext.drawN (Ext.refl _) nq)
              clear LK k13 l13 b4 b6
              go_wp2_with fail
              go_roundw
              case rel => exact ⟨j + 1, s, K, gc, cc, by omega, by go_num, rfl, rfl, J10, S10, hne, T, D, FN2.out⟩
              case measure => simp [intOf]; omega
            rw [hh] at HK
            by_cases hbc : bit L W H qx qy = c
            · have FN2 := Lib.hid (FN.out K F.out (fun _ h2 _ => absurd ((hCol.out (qx, qy)).trans (hbc.trans HC.out.symm)) h2))
              rw [hbc] at GK
              have ecc : (c == c) = true := by simp
              clear FN hh hbc
              go_quiet ((first
                | (go_at_call 35; exact Calls.quiet_of_same ((HK.out _).mono fun _ _ ⟨h, k⟩ => ⟨h, k.symm⟩))
                | (go_at_call 32; exact Calls.quiet_of (GK.out _))))
              have J10 := HJX.out.step (Ext.drawN (Ext.refl _) nq)
              have S10 := HSX.out.ext (Ext.drawN (Ext.refl _) nq)
              clear LK k13 l13 b4 b6
              go_wp2_with fail
              go_roundw
              case rel => exact ⟨j + 1, s, K, gc, cc, by omega, by go_num, rfl, rfl, J10, S10, hne, T, D, FN2.out⟩
              case measure => simp [intOf]; omega
            have hbn : bit L W H qx qy = !c := ne_notT hbc
            have ok : okC L W H (!c) (qx, qy) = true := by
              show (hasB W H qx qy && (bit L W H qx qy == !c)) = true
              rw [hh, hbn]; simp
            have hq1 := Lib.hid ((hHas.out (qx, qy)).2 hh)
            have hq2 : Hid (P.col (qx, qy) ≠ P.col a) := fun e => by rw [hCol.out, HC.out] at e; exact hbc e
            have hq3 : Hid (P.col (qx, qy) = !c) := by rw [Hid, hCol.out]; exact hbn
            rw [hbn] at GK
            have ecc : ((!c) == c) = false := by cases c <;> rfl
            obtain ⟨R, hR⟩ : ∃ R : Cell → Bool, R = rchB (nbC (!c)) (okC L W H (!c)) (W * H) (qx, qy) := ⟨_, rfl⟩
            have HR : Hid (∀ z, R z = true ↔ P.Same (qx, qy) z) := fun z => by rw [hR, ← HP.out]; exact part_iff (by omega) (by omega) ok
            have HRB : Hid (bv (rchF (nbC (!c)) (okC L W H (!c)) (W * H) (qx, qy)) = bs R) := by rw [Hid, bs_bv, hR]; rfl
            have HOK := Lib.hid ok
            clear hh hbc hbn ok hR
            go_quiet ((first
              | (go_at_call 35; exact Calls.quiet_of_same ((HK.out _).mono fun _ _ ⟨h, k⟩ => ⟨h, k.symm⟩))
              | (go_at_call 32; exact Calls.quiet_of (GK.out _))))
            have J10 := HJX.out.step (Ext.drawN (Ext.refl _) nq)
            have S10 := HSX.out.ext (Ext.drawN (Ext.refl _) nq)
            have k13 : (wX.drewN nq).cell? ⟨wr.heap.size, 0, none⟩ = some (.int .i64 qx) := k13
            have l13 : (wX.drewN nq).cell? ⟨wr.heap.size, 1, none⟩ = some (.int .i64 qy) := l13
            clear LK b4 b6 HJX HSX HK GK
            obtain ⟨wY, hwY⟩ : ∃ wY, wX.drewN nq = wY := ⟨_, rfl⟩
            rw [hwY] at J10 S10 k13 l13 ⊢
            have b4 := J10.bx4.cell 0
            have b6 := J10.bx6.cell 0
            simp at b4 b6
            have EY := Ext.more (Ext.refl wY) (.cells #[.int .i64 qx, .int .i64 qy] 38)
            have J11 := Lib.hid (J10.step EY)
            have S11 := Lib.hid (S10.ext EY)
            obtain ⟨KK, hKK, NB⟩ := nbT_C (!c)
            have zY : (wY.alloc (.cells #[.int .i64 qx, .int .i64 qy] 38)).heap.size = wY.heap.size + 1 := by simp
            have SR := Lib.hid (spread_any NB hKK (okB_C L (!c) (by omega) (by omega)) (by omega) qx qy HOK.out wY.heap.size 0 1 82 #[.pointer (some ⟨w.heap.size, 0, none⟩), .pointer (some ⟨w.heap.size + 1, 0, none⟩)] (wY.alloc (.cells #[.int .i64 qx, .int .i64 qy] 38))
              (cell_new wY _ _ 0) (cell_new wY _ _ 1) (by simp) enters_below1T (fun u v _ _ wx hb => below1T_any p g W H w.heap.size (w.heap.size + 1) L c u v wx (J11.out.img.ext hb) (J11.out.bx4.under hb J11.out.bx4.lt) (J11.out.bx6.under hb J11.out.bx6.lt) (by omega) (by omega)))
            rw [HRB.out] at SR
            have hmf : ∀ (fn : Fn) (first cap : Array Value) (w : World), (Instr.makeFunc fn first cap).run Tryz.prog w = .ok (.func fn first cap) w := fun _ _ _ _ => rfl
            rw [zY] at SR
            have b4z := J11.out.bx4.cell 0
            have b6z := J11.out.bx6.cell 0
            simp at b4z b6z
            have uY := J10.chg.size
            clear J10 S10 EY NB hwY
            go_wp2_with fail
            refine SR.out.mono ?_
            rintro e w11 ⟨rfl, hM11, hb11⟩
            have zY2 := Lib.hid zY
            rw [← zY] at hb11
            have J12 := Lib.hid (J11.out.step hb11)
            have S12 := Lib.hid (S11.out.ext hb11)
            have z11 := hb11.size
            rw [zY] at z11
            clear hb11 SR b4z b6z b4 b6 k13 l13 zY J11 S11
            go_wp2_with (at_range; refine wpList_rangeF spotK _ (by rfl) _ _ (by rfl) Tryz.underlying82 (by rfl) hM11 ?_; intro w12 cnt2 hrg2 hb12 hz12)
            go_frame
            have u1 := J12.out.bx4.lt
            have u2 := J12.out.bx6.lt
            have u3 := J12.out.rng.lt
            have u4 := (J12.out.row.lt gc rfl).2
            have u5 := S12.out.1
            have u6 := J12.out.hM
            have u7 := J12.out.chg.size
            have J13 := Lib.hid (J12.out.step hb12)
            have S13 := Lib.hid (S12.out.ext hb12)
            have hfs : (fun z => s z || (R z && !(bs R z).isSome)) = s := by
              funext z
              have : (bs R z).isSome = R z := by cases h : R z <;> simp [bs, h]
              rw [this]; cases R z <;> simp
            have HZ12 := Lib.hid hz12
            clear hz12 hM11 hb12 J12 S12
            go_loopg [16] cnt2 (fun m _ wx => ∃ left3 : Cell → Bool, RngF spV spOk wx (wY.heap.size + 1) w11.heap.size (bs R) left3 m ∧ TpJ w M B w.heap.size (w.heap.size + 1) p g W H w2.heap.size gc cc L c pf (fun z => s z || (R z && !left3 z)) left' cnt1 K wx ∧ SpAt wx ga nl)
            case atStart => exact ⟨_, hrg2, by rw [hfs]; exact J13.out, S13.out⟩
            case round =>
              obtain ⟨left3, hr3, J, SA⟩ := hrel
              clear J13 S13 hfs hrg2
              have HJ := Lib.hid J
              have HSA3 := Lib.hid SA
              clear J SA
              go_wp2_with (at_next; refine wpList_nextF spotK _ (by rfl) _ (by rfl) (by rfl) hr3 ?_ ?_)
              · intro hl3
                have fe : (fun z => s z || (R z && !left3 z)) = fun z => s z || R z := by
                  funext z
                  obtain ⟨z1, z2⟩ := z
                  rw [hl3 z1 z2]; simp
                rw [fe] at HJ
                have PW : P.W * P.H = W * H := by rw [← HP.out]; rfl
                obtain ⟨tk1, _, tk3⟩ := T.out.take HR.out HSA.out hq1.out HQA.out hq2.out hs (by have := HFU.out; omega)
                have IC := IH.out (some a) (qx, qy) (fun z => s z || R z) R M (wY.heap.size + 1) wr HJ.out.img hr3.map HJ.out.seen (by omega) (by rw [HP.out]; exact HR.out) (by rw [HP.out]; exact tk1) (by rw [HP.out]; omega)
                rw [HP.out, hq3.out] at IC
                have HIC := Lib.hid IC
                have b4 := HJ.out.bx4.cell 0
                have b6 := HJ.out.bx6.cell 0
                simp at b4 b6
                have few := T.out.few
                have cbs := CB.out s
                have K324 : K.length ≤ 324 := by omega
                have HBK := Lib.hid (fun s' c' d' (h : P.Ta (some a) (qx, qy) (fun z => s z || R z) n c' d' s') => T.out.back HR.out HSA.out hq1.out HQA.out hq2.out hs h)
                clear IC tk1 tk3 fe few cbs PW hr3
                go_wp2_with fail
                refine HIC.out.mono ?_
                rintro e w15 ⟨c', d', s', rfl, TA, hM15, hC15⟩
                have J15 := Lib.hid (HJ.out.move hC15 (fun b h1 h2 => by rcases h1 with h1 | h1; exact .inl h1; omega) hM15)
                have S15 := Lib.hid (HSA3.out.chgM hC15 (by have := HSA3.out.1; omega))
                have T15 := Lib.hid (HBK.out s' c' d' TA)
                have dn := TA.dep
                have row15 := J15.out.row
                have z15 := J15.out.chg.size
                have dk : deepC (K.map fun e => e.2.2) ≤ n + 1 := deep_le (fun d hd => by
                  obtain ⟨e, he, rfl⟩ := List.mem_map.1 hd
                  exact T.out.dep e he)
                have DS : Hid ((deepC ((K ++ [((qx, qy), c', d')]).map fun e => e.2.2) : Nat) = max (deepC (K.map fun e => e.2.2)) (d' + 1)) := by
                  rw [Hid, List.map_append]
                  exact deepC_snoc _ _
                clear TA hM15 hC15 HIC HBK b4 b6 HJ HSA3
                generalize deepC (K.map fun e => e.2.2) = dp at *
                go_wp2_with (at_builtin; refine wpList_app strT (by rfl) _ _ (by rfl) w.heap.size (.slice (some ⟨gc, 0, none⟩) K.length cc) K.length (kcV K) (by rfl) (row15.alloc _) w15.heap.size #[.string ⟨c'.toArray⟩] (by rfl) (heap_alloc_new _ _) rfl (by simp [Value.oneCell']) (by omega) (by simp; omega) ?_; intro g3 cap3 w16 hown3 hgrow3 hat3 hlt3)
                have J16 := Lib.hid (J15.out.app (e := ((qx, qy), c', d')) hgrow3 (by simpa using hown3) hat3)
                have S16 : SpAt w16 ga nl := (S15.out.ext (Ext.more (Ext.refl w15) (.cells #[.string ⟨c'.toArray⟩] 9))).chgM (Chg.of_rowT hgrow3) (by simp [Value.ownBlock]; omega)
                have ne16 : g3 ≠ ga := by
                  rcases hat3 with e | e
                  · have : gc = g3 := by simpa [Value.ownBlock] using e
                    omega
                  · have := S15.out.1; simp at e; omega
                have HF16 := Lib.hid (FN.out (K ++ [((qx, qy), c', d')]) (fun i hi => (F.out i hi).more _) (fun _ _ _ => ⟨_, List.mem_append.2 (.inr (List.mem_singleton.2 rfl)), .start hq1.out⟩))
                have HD16 : Hid (∀ x q, P.Same a x → x ≠ (a1, a2) → left' x = false → A4 x q → Fnd P o a (K ++ [((qx, qy), c', d')]) q) := fun x q h1 h2 h3 h4 => (D.out x q h1 h2 h3 h4).more _
                clear hown3 hgrow3 hat3 hlt3 row15
                go_roundw
                case rel => exact ⟨j + 1, s', K ++ [((qx, qy), c', d')], g3, cap3, by omega, by go_num, by rw [List.length_append]; rfl, by rw [DS.out]; simp; omega, J16.out, S16, ne16, T15.out, HD16, HF16.out⟩
                case measure => simp [intOf]; omega
              · intro a3 a4 v3 w13 cnt3 left4 ha3 hla3 hfa3 hl4 hrg4 hlt4 hg13 hz13 hen3
                have J14 := HJ.out.iter hg13 ⟨by omega, by omega, by omega, by omega, by omega⟩
                have S14 := HSA3.out.chgM (Chg.of_rowT hg13) (by simp; omega)
                have HL4 : Hid (∀ b, left4 b = true ↔ left3 b = true ∧ b ≠ (a3, a4)) := fun b => by
                  obtain ⟨b1, b2⟩ := b
                  rw [hl4 b1 b2]
                  simp
                have Ra : R (a3, a4) = true := by
                  cases h : R (a3, a4) with
                  | true => rfl
                  | false => simp [bs, h] at hfa3
                have PE : Hid ((fun x => (s x || (R x && !left3 x)) || decide (x = (a3, a4))) = fun x => s x || (R x && !left4 x)) := by
                  rw [Hid]
                  funext x
                  by_cases hx : x = (a3, a4)
                  · subst hx
                    have h1 : left4 (a3, a4) = false := by
                      cases h : left4 (a3, a4) with
                      | false => rfl
                      | true => exact absurd rfl ((HL4.out _).1 h).2
                    simp [h1, Ra]
                  · have h1 : left4 x = left3 x := by
                      rw [Bool.eq_iff_iff, HL4.out]
                      simp [hx]
                    simp [h1, hx]
                have QA3 : Hid (spOk (a3, a4)) := ha3
                have e3 : spV (a3, a4) = .agg #[.int .i64 a3, .int .i64 a4] := rfl
                rw [e3] at hen3 ⊢
                have EX3 := Ext.more (Ext.refl w13) (.cells #[.int .i64 a3, .int .i64 a4] 38)
                have J15 := Lib.hid (J14.step EX3)
                have S15 := Lib.hid (S14.ext EX3)
                have R15 := Lib.hid (hrg4.ext EX3)
                have k15 : (w13.alloc (.cells #[.int .i64 a3, .int .i64 a4] 38)).cell? ⟨w13.heap.size, 0, none⟩ = some (.int .i64 a3) := cell_new w13 _ _ 0
                have l15 : (w13.alloc (.cells #[.int .i64 a3, .int .i64 a4] 38)).cell? ⟨w13.heap.size, 1, none⟩ = some (.int .i64 a4) := cell_new w13 _ _ 1
                clear hl4 hla3 hfa3 ha3 Ra hg13 hrg4 e3 J14 S14 hr3 HJ HSA3 EX3
                go_wp2_with (at_mapUpdate; refine wpList_putF spotK _ (by rfl) _ _ _ _ (by rfl) Tryz.underlying82 (by rfl) J15.out.seen (a3, a4) QA3.out (by rfl) ?_; intro w16 hm16 hg16 hz16)
                have hm16' : MapF spV spOk w16 M (bs fun x => s x || (R x && !left4 x)) := by
                  rw [← PE.out, ← bs_put]
                  exact hm16
                have J16 := Lib.hid (J15.out.put hg16 hm16')
                have S16 := Lib.hid (S15.out.chgM (Chg.of_rowT hg16) (by simp; omega))
                have R16 := Lib.hid (R15.out.kept hg16 (by simp; omega) (by simp; omega))
                clear hm16 hm16' hg16 k15 l15
                go_roundg cnt3
                case measure => exact hlt4
                case rel => exact ⟨left4, R16.out, J16.out, S16.out⟩
          · obtain rfl : j = 4 := by omega
            have DN : Hid (Dne P o a left' K) := fun x q h1 h2 h3 => by
              by_cases hx : x = (a1, a2)
              · subst hx
                obtain ⟨i, hi, he⟩ := List.getElem_of_mem ((NM.out q).2 h3)
                have := F.out i (by rw [← HNL.out]; exact hi)
                rw [List.getD_eq_getElem?_getD, List.getElem?_eq_getElem hi, Option.getD_some, he] at this
                exact this
              · exact D.out x q h1 hx h2 h3
            have HJ := Lib.hid J
            clear J SA
            go_wp2_with fail
            go_roundg cnt1
            case measure => omega
            case rel => exact ⟨left', s, K, gc, cc, rfl, rfl, HJ.out, T, DN⟩
end Go.Proofs.YtdhajndmebnknaaGreat
