/- CloseAlong: the reference's. -/
import Derived.Test.YtbkgmegpgnmlpaaSSs
namespace Go.Proofs.Ytbkgmegpgnmlpaa
open Go.RowKit

theorem setL_snoc (P : List (Int × Int)) (x : Int) : setL (P ++ [(x, x)]) x = P ++ [(x, x)] := by
  unfold setL gp
  simp [List.getD_eq_getElem?_getD]
theorem decide_k0 {k : Nat} (h : k = 0) : ((k : Int) == 0) = true := by simp [h]
theorem decide_k1 {k : Nat} (h : ¬ k = 0) : ((k : Int) == 0) = false := by simp; omega
/-- What a store of the last part's end needs and leaves; a list's block apart. -/
theorem prt_put' {w : World} {lo hi g5 : Nat} {A : Option Addr} {c : Nat} {vs : List Value} {P : List (Int × Int)} (h : MatAt w lo hi A c vs (prR P)) (hP : 0 < P.length) (hb : P.length ≤ 1000) (NR : ∀ (i : Nat) (u : Value), vs[i]? = some u → u.ownBlock ≠ some g5) (v : Int) :
    ∃ g gr cy q ov, A = some ⟨g, 0, none⟩ ∧ w.cell? ⟨g, q, none⟩ = some (.slice (some ⟨gr, 0, none⟩) 2 cy) ∧ lo ≤ gr ∧ w.frozen? ⟨gr, 1, none⟩ = false ∧ w.cell? ⟨gr, 1, none⟩ = some ov ∧ Hid (MatAt (w.setCell ⟨gr, 1, none⟩ (.int .i64 v)) lo hi A c vs (prR (setL P v))) ∧
      (P.length : Int) - 1 = (q : Nat) ∧ IntKind.i64.wrap ((P.length : Int) - 1) = (q : Nat) ∧ wrap64 (q : Nat) = ((q : Nat) : Int) ∧ (0 : Int) ≤ (q : Nat) ∧ ((q : Nat) : Int) < P.length ∧ gr ≠ g5 := by
  obtain ⟨g, gr, cy, q, ov, rfl, k1, hlo, fz, k2, HPU, eq1, eq2, eq3, j2, j3⟩ := prt_put h hP hb v
  refine ⟨g, gr, cy, q, ov, rfl, k1, hlo, fz, k2, HPU, eq1, eq2, eq3, j2, j3, ?_⟩
  rintro rfl
  have hq := h.outer.cellAt q (by rw [prR_len]; omega)
  rw [k1] at hq
  exact NR q _ hq.symm rfl
theorem mat_put {w : World} {lo : Nat} {A : Option Addr} {c : Nat} {vs : List Value} {rows : List (List Int)} {p : Addr} {u : Value} (nq : Nat) (h : MatAt (w.setCell p u) lo w.heap.size A c vs rows) : MatAt ((w.drewN nq).setCell p u) lo ((w.drewN nq).setCell p u).heap.size A c vs rows := by
  have e : ((w.drewN nq).setCell p u).heap.size = w.heap.size := by simp [World.setCell, World.drewN]
  rw [e]
  exact h.ext (Ext.drawN (Ext.refl _) nq)
theorem own_set {w : World} {base g5 n c size gr i : Nat} {e : TypeId} {xs : List Value} {u : Value} (nq : Nat) (h : w.ownsRow base e size (.slice (some ⟨g5, 0, none⟩) n c) n xs) (hne : gr ≠ g5) : ((w.drewN nq).setCell ⟨gr, i, none⟩ u).ownsRow base e size (.slice (some ⟨g5, 0, none⟩) n c) n xs :=
  (((Chg.refl (fun b => b = gr) w).drewN nq).store (p := ⟨gr, i, none⟩) rfl u).own h (fun g hg e => by
    simp [Value.ownBlock] at hg
    omega)
theorem grow_undrew {w w' : World} {row : Option Nat} (h : w.drew.grownBy w' row) : w.grownBy w' row := ⟨h.os, h.tape, h.output, h.size, h.block⟩
set_option maxRecDepth 100000 in
set_option maxHeartbeats 4000000 in
theorem closeAlongS_any (c o gap : Int) (g cp n : Nat) (L : List (Int × Int)) (w : World) (hA : SpAt w g L) (hl : L.length = n) (hn : n ≤ 1000000000) :
    Calls Try.prog 42 #[.int .i64 c, .int .i64 o, .slice (some ⟨g, 0, none⟩) n cp, .int .i64 gap] w (IvRes w (clP c o L gap) (clOk c o L gap)) := by
  have C := Lib.hid (listS8_any c o g cp n L w hA hl hn)
  cases h : sokB c o L
  · have F : Hid (clP c o L gap = [] ∧ clOk c o L gap = false) := by simp [Hid, clP, clOk, h]
    rw [h] at C
    clear h hl hA
    go_enter Try.func42, Try.ntmps42
    go_wp2_with fail
    refine (C.out).mono ?_
    rintro e w2 ⟨rfl, hb⟩
    go_wp2_with fail
    go_ret2
    exact IvRes.no F.out.1 F.out.2 hb
  obtain ⟨⟨hc0, hc3⟩, ⟨h0, h4⟩, hf, hL⟩ := sok_few h
  have I := Lib.hid (fun V => inS_any gap 0 256 V)
  rw [h] at C
  cases h2 : inB gap 0 256
  · have F : Hid (clP c o L gap = [] ∧ clOk c o L gap = false) := by simp [Hid, clP, clOk, h2]
    rw [h2] at I
    clear h hl h2 hA
    go_enter Try.func42, Try.ntmps42
    go_wp2_with fail
    refine (C.out).mono ?_
    rintro e w2 ⟨rfl, hb⟩
    go_wp2_with fail
    refine (I.out _).mono ?_
    rintro e w' ⟨rfl, rfl⟩
    go_wp2_with fail
    go_ret2
    exact IvRes.no F.out.1 F.out.2 hb
  obtain ⟨gp0, gp1⟩ := inB_iff.1 h2
  have F : Hid (clP c o L gap = prtTo gap (sIx c o L) n ∧ clOk c o L gap = true) := by
    have e : clOk c o L gap = true := by simp [clOk, h, h2]
    exact ⟨by rw [clP, if_pos e, sIx_len h0 h4 hL, hl], e⟩
  have hlen2 := sIx_len h0 h4 hL (c := c)
  have hbd := sIx_bd h0 h4 (c := c) (L := L)
  have SR := Lib.hid (fun U (hU : SpAt U g L) => sortedS_any c o g cp n L U hU hl h)
  rw [hl] at hf hlen2
  rw [h2] at I
  rw [F.out.1, F.out.2]
  generalize sIx c o L = S at *
  have HS := Lib.hid hlen2
  have BD : Hid (∀ k, k < n → 0 ≤ S.getD k 0 ∧ S.getD k 0 < 256) := by
    intro k hk
    have hk' : k < S.length := by omega
    rw [List.getD_eq_getElem?_getD, List.getElem?_eq_getElem hk']
    exact hbd _ (List.getElem_mem hk')
  have PS := Lib.hid (fun k => (show prtTo gap S (k + 1) = if 0 < k ∧ S.getD k 0 - S.getD (k - 1) 0 ≤ gap then setL (prtTo gap S k) (S.getD k 0) else prtTo gap S k ++ [(S.getD k 0, S.getD k 0)] from rfl))
  have PP := Lib.hid (prtTo_pos gap S)
  have PL := Lib.hid (prtTo_le gap S)
  have AX := Lib.hid (fun U (hb : Below w.heap.size w U) => hA.ext hb)
  clear h hl hA hL h2 hlen2 F hbd
  go_enter Try.func42, Try.ntmps42
  go_wp2_with fail
  refine (C.out).mono ?_
  rintro e w2 ⟨rfl, hb⟩
  go_wp2_with fail
  refine (I.out _).mono ?_
  rintro e w' ⟨rfl, rfl⟩
  obtain ⟨w4, hw4⟩ : ∃ w4, w2.alloc (.cells #[] 61) = w4 := ⟨_, rfl⟩
  have hrow0 : w4.ownsRow w2.heap.size 61 1 (.slice (some ⟨w2.heap.size, 0, none⟩) 0 0) 0 [] := by rw [← hw4]; exact World.ownsRow_lit (e := 61) (size := 1) w2 #[] 0 (Nat.le_refl _) (by decide) rfl
  have B4 := ext_of_alloc hw4
  have z4 : w2.heap.size < w4.heap.size := by rw [← hw4]; simp
  have M0 : MatAt w4 w2.heap.size w4.heap.size (some ⟨w2.heap.size, 0, none⟩) 0 [] (prR (prtTo gap S 0)) := MatAt.nil _ _ _ _ _ hrow0 (fun a ha => by cases ha; exact z4)
  have C5 := Lib.hid (SR.out w4 (AX.out _ (Ext.then_ hb B4)))
  go_wp2_with fail
  try simp only [hw4]
  refine (C5.out).mono ?_
  rintro e w5 ⟨g5, c5, rfl, own5, hb5⟩
  have lg5 := (own5.lt g5 rfl).1
  have hI := Lib.hid own5
  have HM0 := Lib.hid ((M0.ext hb5).low (Nat.le_refl _) hb5.size)
  have B5 := Ext.then_ B4 hb5
  have E0 : Hid ((prtTo gap S 0).length = 0) := rfl
  clear own5 C5 hw4 M0 hrow0
  go_wp2_with fail
  go_loopw [10, 12] (fun v i wr => ∃ (k ck : Nat) (A : Option Addr) (vs : List Value), k ≤ n ∧ i = .int .i64 k ∧ v = .slice A (prtTo gap S k).length ck ∧ Hid (MatAt wr w2.heap.size wr.heap.size A ck vs (prR (prtTo gap S k))) ∧ Hid (∀ (i : Nat) (u : Value), vs[i]? = some u → u.ownBlock ≠ some g5) ∧
    Hid (wr.ownsRow w4.heap.size 2 1 (.slice (some ⟨g5, 0, none⟩) n c5) n (ints S)) ∧ Below w2.heap.size w2 wr ∧ g5 < wr.heap.size) (fun _ i _ => n - (intOf i).toNat)
  case atStart => exact ⟨0, _, _, _, Nat.zero_le _, rfl, by rw [E0.out], HM0, (fun i u h => by simp at h), hI, B5, (hI.out.lt g5 rfl).2⟩
  case round =>
    obtain ⟨k, ck, A, vs, hk, rfl, rfl, HM, NR, hI2, hbk, lgk⟩ := hrel
    clear HM0 hI
    by_cases hlt : k < n
    · have hkS : k < S.length := by rw [HS.out]; exact hlt
      have hIA := own_ints hI2.out HS.out
      have c1 := hIA.2 k hkS
      have gI := hIA.1
      have e1 : S[k] = S.getD k 0 := by rw [List.getD_eq_getElem?_getD, List.getElem?_eq_getElem hkS]; rfl
      rw [e1] at c1
      obtain ⟨d1, d2⟩ := BD.out k hlt
      have P1 := Lib.hid (PS.out k)
      have i0 : (0 : Int) ≤ (k : Int) := by omega
      have i1 : (k : Int) < (n : Int) := by omega
      have pl := PL.out k
      have pp := PP.out k
      obtain ⟨P, hP⟩ : ∃ P, prtTo gap S k = P := ⟨_, rfl⟩
      rw [hP] at P1 HM pl pp
      rw [hP]
      obtain ⟨v, hv⟩ : ∃ v, S.getD k 0 = v := ⟨_, rfl⟩
      rw [hv] at P1 c1 d1 d2
      have HV0 := Lib.hid hv
      clear e1 hIA hP hv
      have NP : Hid (¬ (0 < k ∧ v - S.getD (k - 1) 0 ≤ gap) → prtTo gap S (k + 1) = setL (P ++ [(v, v)]) v) := fun h => by rw [P1.out, if_neg h, setL_snoc]
      have NQ : Hid (0 < k ∧ v - S.getD (k - 1) 0 ≤ gap → prtTo gap S (k + 1) = setL P v) := fun h => by rw [P1.out, if_pos h]
      have PX : 0 < k → ∃ m : Nat, k = m + 1 ∧ m < S.length := fun h => ⟨k - 1, by omega, by omega⟩
      have e5 : S.length = n := HS.out
      have MC := Lib.hid (fun (m : Nat) (h : m < S.length) => (own_ints hI2.out HS.out).2 m h)
      have BM := Lib.hid (fun (m : Nat) (h : m < n) => BD.out m h)
      clear P1 hkS e5
      by_cases hgp : 0 < k ∧ v - S.getD (k - 1) 0 ≤ gap
      case' neg =>
        have PN := Lib.hid (NP.out hgp)
        clear NP NQ
        by_cases hk0 : k = 0
        case' pos =>
          have t0 := decide_k0 hk0
          clear hk0 hgp PX
          go_wp2_with fail
          refine wp_region_held_quiet (fun U => Below wr.heap.size wr U) (by kernel_rfl) (by kernel_rfl) (Ext.refl _).drew ?_
          have ne : Nonempty (HeldW (fun U => Below wr.heap.size wr U)) := ⟨⟨wr, Ext.refl _⟩⟩
          have v0 : ∀ i : HeldW (fun U => Below wr.heap.size wr U), i.w.cell? ⟨g5, k, none⟩ = _ := fun i => (i.h.cell (p := ⟨g5, k, none⟩) gI).trans c1
          repeat (go_big_quiet_step (fail))
          refine wpQuiet_nil ?_
          intro w6 hw'
          obtain ⟨⟨_, hb6⟩, rfl⟩ := hw'
          clear ne v0
        case' neg =>
          have t0 := decide_k1 hk0
          obtain ⟨m, hm, hmS⟩ := PX (by omega)
          have c2 := MC.out m hmS
          have e2 : S[m] = S.getD m 0 := by rw [List.getD_eq_getElem?_getD, List.getElem?_eq_getElem hmS]; rfl
          rw [e2] at c2
          obtain ⟨d3, d4⟩ := BM.out m (by omega)
          have em : k - 1 = m := by omega
          rw [em] at hgp
          generalize S.getD m 0 = pv at *
          have t1 : gap < v - pv := by omega
          have ek : IntKind.i64.wrap ((k : Int) - 1) = (m : Int) := by rw [IntWalk.i64_in _ (by omega)]; omega
          have ev : IntKind.i64.wrap (v - pv) = v - pv := IntWalk.i64_in _ (by omega)
          have j0 : (0 : Int) ≤ (m : Int) := by omega
          have j1 : (m : Int) < (n : Int) := by omega
          clear hk0 hgp PX hm em e2 hmS
          go_wp2_with fail
          refine wp_region_held_quiet (fun U => Below wr.heap.size wr U) (by kernel_rfl) (by kernel_rfl) (Ext.refl _).drew ?_
          have ne : Nonempty (HeldW (fun U => Below wr.heap.size wr U)) := ⟨⟨wr, Ext.refl _⟩⟩
          have v0 : ∀ i : HeldW (fun U => Below wr.heap.size wr U), i.w.cell? ⟨g5, k, none⟩ = _ := fun i => (i.h.cell (p := ⟨g5, k, none⟩) gI).trans c1
          have v1 : ∀ i : HeldW (fun U => Below wr.heap.size wr U), i.w.cell? ⟨g5, m, none⟩ = _ := fun i => (i.h.cell (p := ⟨g5, m, none⟩) gI).trans c2
          repeat (go_big_quiet_step (fail))
          refine wpQuiet_nil ?_
          intro w6 hw'
          obtain ⟨⟨_, hb6⟩, rfl⟩ := hw'
          clear ne v0 v1
          go_wp2_with fail
          clear t1 ek ev j0 j1 c2 d3 d4
        all_goals
          clear MC BM t0
          have c3 := (hb6.cell (p := ⟨g5, k, none⟩) gI).trans c1
          have HM6 := Lib.hid ((HM.out.ext hb6).low (Nat.le_refl _) hb6.size)
          have HI6 := Lib.hid (own_ext hb6 hI2.out)
          have B6 := Ext.then_ hbk hb6
          have lg6 : g5 < w6.heap.size := Nat.lt_of_lt_of_le lgk hb6.size
          clear c1 HM hI2
          have hou := HM6.out.outer
          rw [prR_len] at hou
          have HNE : (Value.slice A P.length ck).ownBlock ≠ some g5 := own_own_ne HI6.out hou (by decide) (g := g5) rfl
          have HNE2 : some g5 ≠ (Value.slice A P.length ck).ownBlock := fun e => HNE e.symm
          have HRW := Lib.hid (World.ownsRow_lit (e := 2) (size := 1) w6 #[.int .i64 v, .int .i64 v] 2 (Nat.le_refl _) (by decide) rfl)
          have HNW : Hid (((w6.alloc (.cells #[.int .i64 v, .int .i64 v] 2)).alloc (.cells #[.slice (some ⟨w6.heap.size, 0, none⟩) 2 2] 61)).heap[w6.heap.size + 1]? = some (.cells #[.slice (some ⟨w6.heap.size, 0, none⟩) 2 2] 61 (0, 0))) := by
            have := heap_alloc_new (w6.alloc (.cells #[.int .i64 v, .int .i64 v] 2)) (.cells #[.slice (some ⟨w6.heap.size, 0, none⟩) 2 2] 61)
            rw [World.size_alloc] at this
            exact this
          have hsz := B6.size
          go_wp2_with fail
          go_region_held3 (fun w' => w'.cell? ⟨g5, k, none⟩ = some (.int .i64 v))
            (first | (exact (hgrow8.cell_far ⟨g5, k, none⟩ (by simp; omega) HNE2).trans (by assumption)) | go_keep)
            ((refine step_app rowT (by rfl) _ _ (by rfl) w2.heap.size (.slice A P.length ck) P.length vs (by rfl) ((hou.alloc _).alloc _).drew (w6.heap.size + 1) #[.slice (some ⟨w6.heap.size, 0, none⟩) 2 2] (by rfl) HNW.out rfl (by simp [Value.oneCell']) (by omega) (by simp; omega) ?_; intro g8 c8 w8 hown8 hgrow8 hat8 hlt8))
          replace hgrow8 := grow_undrew hgrow8
          have HM8 : Hid (MatAt w8 w2.heap.size w8.heap.size (some ⟨g8, 0, none⟩) c8 (vs ++ [.slice (some ⟨w6.heap.size, 0, none⟩) ([v, v] : List Int).length 2]) (prR (P ++ [(v, v)]))) := by
            rw [Hid, prR_app]
            exact MatAt.push HM6.out (Ext.more (Ext.refl w6) _) HRW.out hsz (Nat.le_refl _) (by rw [prR_len]; exact hgrow8) (by rw [prR_len]; simpa using hown8)
          have B8 : Below w2.heap.size w2 w8 := ((B6.alloc hsz _).alloc (by simp; omega) _).grown hgrow8 (by simp; omega) (fun z hz => (hou.lt z hz).1)
          have HI8 : Hid (w8.ownsRow w4.heap.size 2 1 (.slice (some ⟨g5, 0, none⟩) n c5) n (ints S)) := ((HI6.out.alloc _).alloc _).kept hgrow8 (.inr HNE2)
          have NR8 : Hid (∀ (i : Nat) (u : Value), (vs ++ [Value.slice (some ⟨w6.heap.size, 0, none⟩) ([v, v] : List Int).length 2])[i]? = some u → u.ownBlock ≠ some g5) := by
            intro i u hu
            rw [List.getElem?_append] at hu
            split at hu
            · exact NR.out i u hu
            · have hu2 := List.mem_of_getElem? hu
              rw [List.mem_singleton] at hu2
              subst hu2
              intro e
              simp [Value.ownBlock] at e
              omega
          have lg8 : g5 < w8.heap.size := by have := hgrow8.size; simp at this; omega
          have H8 : 0 < (P ++ [(v, v)]).length := by simp
          have L8 : (P ++ [(v, v)]).length ≤ 1000 := by simp; omega
          obtain ⟨pn, hpn⟩ : ∃ pn, P.length + 1 = pn := ⟨_, rfl⟩
          have HPN : Hid ((P ++ [(v, v)]).length = pn) := by rw [Hid, ← hpn]; simp
          rw [hpn]
          obtain ⟨P8, hP8⟩ : ∃ P8, P ++ [(v, v)] = P8 := ⟨_, rfl⟩
          rw [hP8] at HM8 PN H8 L8 HPN
          obtain ⟨vs8, hvs8⟩ : ∃ vs8, vs ++ [Value.slice (some ⟨w6.heap.size, 0, none⟩) ([v, v] : List Int).length 2] = vs8 := ⟨_, rfl⟩
          rw [hvs8] at HM8 NR8
          clear hown8 hgrow8 hat8 hou HM6 HI6 B6 HRW HNW HNE HNE2 lg6 c3 hpn hP8 hvs8 hlt8 NR hsz
      case' pos =>
        have PN := Lib.hid (NQ.out hgp)
        have hpp := pp hgp.1
        clear NP NQ
        have hk0 : ¬ k = 0 := by omega
        have t0 := decide_k1 hk0
        obtain ⟨m, hm, hmS⟩ := PX (by omega)
        have c2 := MC.out m hmS
        have e2 : S[m] = S.getD m 0 := by rw [List.getD_eq_getElem?_getD, List.getElem?_eq_getElem hmS]; rfl
        rw [e2] at c2
        obtain ⟨d3, d4⟩ := BM.out m (by omega)
        have em : k - 1 = m := by omega
        rw [em] at hgp
        generalize S.getD m 0 = pv at *
        have t1 : ¬ gap < v - pv := by omega
        have ek : IntKind.i64.wrap ((k : Int) - 1) = (m : Int) := by rw [IntWalk.i64_in _ (by omega)]; omega
        have ev : IntKind.i64.wrap (v - pv) = v - pv := IntWalk.i64_in _ (by omega)
        have j0 : (0 : Int) ≤ (m : Int) := by omega
        have j1 : (m : Int) < (n : Int) := by omega
        clear hk0 hgp PX hm em e2 hmS
        go_wp2_with fail
        refine wp_region_held_quiet (fun U => Below wr.heap.size wr U) (by kernel_rfl) (by kernel_rfl) (Ext.refl _).drew ?_
        have ne : Nonempty (HeldW (fun U => Below wr.heap.size wr U)) := ⟨⟨wr, Ext.refl _⟩⟩
        have v0 : ∀ i : HeldW (fun U => Below wr.heap.size wr U), i.w.cell? ⟨g5, k, none⟩ = _ := fun i => (i.h.cell (p := ⟨g5, k, none⟩) gI).trans c1
        have v1 : ∀ i : HeldW (fun U => Below wr.heap.size wr U), i.w.cell? ⟨g5, m, none⟩ = _ := fun i => (i.h.cell (p := ⟨g5, m, none⟩) gI).trans c2
        repeat (go_big_quiet_step (fail))
        refine wpQuiet_nil ?_
        intro w8 hw'
        obtain ⟨⟨_, hb6⟩, rfl⟩ := hw'
        clear ne v0 v1
        go_wp2_with fail
        clear t1 ek ev j0 j1 c2 d3 d4 MC BM t0
        have HM8 := Lib.hid ((HM.out.ext hb6).low (Nat.le_refl _) hb6.size)
        have HI8 := Lib.hid (own_ext hb6 hI2.out)
        have B8 := Ext.then_ hbk hb6
        have lg8 : g5 < w8.heap.size := Nat.lt_of_lt_of_le lgk hb6.size
        have NR8 := NR
        have H8 := hpp
        have L8 : P.length ≤ 1000 := by omega
        obtain ⟨pn, hpn⟩ : ∃ pn, P.length = pn := ⟨_, rfl⟩
        have HPN := Lib.hid hpn
        rw [hpn]
        clear c1 HM hI2 NR hpn hpp
      all_goals
        obtain ⟨gy, gr, cy, q, ov, e9, k1, hlo, fz, k2, HPU, eq1, eq2, eq3, j2, j3, hne⟩ := prt_put' HM8.out H8 L8 NR8.out v
        cases e9
        have hkS : k < S.length := by rw [HS.out]; exact hlt
        have c6 := (own_ints HI8.out HS.out).2 k hkS
        have e6 : S[k] = v := by rw [← HV0.out, List.getD_eq_getElem?_getD, List.getElem?_eq_getElem hkS]; rfl
        rw [e6] at c6
        rw [HPN.out] at eq1 eq2 j3
        have hpn2 : Hid ((prtTo gap S (k + 1)).length = pn) := by rw [Hid, PN.out, setL_len, HPN.out]
        clear hkS e6 HM8 H8 L8 HPN
        go_wp2_with fail
        refine wp_region_quiet_tail 11 (by kernel_rfl) (by kernel_rfl) ?_
        simp only [List.take_succ_cons, List.take_zero, List.drop_succ_cons, List.drop_zero]
        repeat (go_big_quiet_step (fail))
        refine wpQuiet_nil ?_
        intro _ hw'
        obtain ⟨nq, hw''⟩ := hw'
        subst hw''
        have f3 : (w8.drewN nq).frozen? ⟨gr, 1, none⟩ = false := fz
        have c7 : (w8.drewN nq).cell? ⟨gr, 1, none⟩ = some ov := k2
        have HMR := mat_put nq HPU.out
        rw [← PN.out] at HMR
        replace HMR := Lib.hid HMR
        have HI9 := Lib.hid (own_set (i := 1) (u := .int .i64 v) nq HI8.out hne)
        have B9 := (Ext.drawN B8 nq).setCell (p := ⟨gr, 1, none⟩) hlo (.int .i64 v)
        have lg9 : g5 < ((w8.drewN nq).setCell ⟨gr, 1, none⟩ (.int .i64 v)).heap.size := by simp [World.setCell, World.drewN]; exact lg8
        clear k1 k2 fz c6 HPU PN B8 HI8 eq1 eq2 eq3 hne
        go_wp2_with fail
        go_roundw
        case rel => exact ⟨k + 1, _, _, _, by omega, by go_num, by rw [hpn2.out], HMR, NR8, HI9, B9, lg9⟩
        case measure => simp [intOf]; omega
    · obtain rfl : k = n := by omega
      have zb := hb.size
      clear NR hI2
      go_wp2_with fail
      go_ret2
      exact ⟨A, ck, vs, rfl, HM.out.low zb (Nat.le_refl _), Ext.then_ hb hbk⟩
end Go.Proofs.Ytbkgmegpgnmlpaa
