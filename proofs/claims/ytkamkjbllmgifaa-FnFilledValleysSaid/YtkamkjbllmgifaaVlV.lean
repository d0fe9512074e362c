/- Valleys that last: the program's and the reference's lists. ValleysOf: the program's. -/
import Derived.Test.YtkamkjbllmgifaaVlI
import Derived.Test.YtkamkjbllmgifaaHQ
namespace Go.Proofs.Ytkamkjbllmgifaa
open Go.RowKit
open Vl

/-- The valleys that last, as lists. -/
def lastR (st : VS) (k : Nat) : List (List Int) := (List.range k).filterMap fun v => if st.dies v == st.born v then none else some [st.born v, ((st.place v : Nat) : Int), st.dies v]
theorem lastR_yes {st : VS} {k : Nat} (h : st.dies k ≠ st.born k) : lastR st (k + 1) = lastR st k ++ [[st.born k, ((st.place k : Nat) : Int), st.dies k]] := by
  unfold lastR
  rw [List.range_succ, List.filterMap_append]
  simp [h]
theorem lastR_no {st : VS} {k : Nat} (h : st.dies k = st.born k) : lastR st (k + 1) = lastR st k := by
  unfold lastR
  rw [List.range_succ, List.filterMap_append]
  simp [h]
theorem lastR_len (st : VS) (k : Nat) : (lastR st k).length ≤ k := by
  unfold lastR
  have := List.length_filterMap_le (fun v => if st.dies v == st.born v then none else some [st.born v, ((st.place v : Nat) : Int), st.dies v]) (List.range k)
  rwa [List.length_range] at this
theorem fold_bd {nb : Nat → List Nat} {num : Nat → Int} {l : List Nat} (h : l.Pairwise (ltP num)) (_h0 : ∀ i ∈ l, 0 ≤ num i) :
    ∀ v, v < (fold nb num l).n → (fold nb num l).place v ∈ l ∧ (fold nb num l).born v = num ((fold nb num l).place v) ∧ ((fold nb num l).dies v = -1 ∨ (fold nb num l).born v ≤ (fold nb num l).dies v) := by
  have G : ∀ m : List Nat, m.reverse.Pairwise (ltP num) → ∀ v, v < (fold nb num m.reverse).n → (fold nb num m.reverse).place v ∈ m ∧ (fold nb num m.reverse).born v = num ((fold nb num m.reverse).place v) ∧ ((fold nb num m.reverse).dies v = -1 ∨ (fold nb num m.reverse).born v ≤ (fold nb num m.reverse).dies v) := by
    intro m
    induction m with
    | nil => intro _ v hv; simp [fold, VS.start] at hv
    | cons i m ih =>
      intro hp v hv
      rw [List.reverse_cons] at hp hv ⊢
      rw [fold_app] at hv ⊢
      obtain ⟨p1, _, p3⟩ := List.pairwise_append.1 hp
      have ih := ih p1
      generalize fold nb num m.reverse = st at *
      have le : ∀ j ∈ m, num j ≤ num i := fun j hj => by
        have := p3 j (List.mem_reverse.2 hj) i (by simp)
        unfold ltP at this; omega
      unfold stepV at hv ⊢
      by_cases e : near st (nb i) = []
      · rw [if_pos e] at hv ⊢
        simp only [fin, grow] at hv ⊢
        by_cases ev : v = st.n
        · subst ev
          simp
        · simp only [if_neg ev]
          have := ih v (by omega)
          exact ⟨List.mem_cons_of_mem _ this.1, this.2.1, this.2.2⟩
      · rw [if_neg e] at hv ⊢
        simp only [fin, Vl.part] at hv ⊢
        have := ih v hv
        refine ⟨List.mem_cons_of_mem _ this.1, this.2.1, ?_⟩
        split
        · refine .inr ?_
          rw [this.2.1]
          exact le _ this.1
        · exact this.2.2
  intro v hv
  have := G l.reverse (by rw [List.reverse_reverse]; exact h) v (by rw [List.reverse_reverse]; exact hv)
  rw [List.reverse_reverse] at this
  exact ⟨List.mem_reverse.1 this.1, this.2⟩
/-- The valleys of a grey picture. -/
def vSt (rows : List (List Int)) : VS := fold (nbN (tabW rows) rows.length) (gF rows (tabW rows)) (ordS (gF rows (tabW rows)) (tabW rows * rows.length) 100)
theorem vSt_bd {rows : List (List Int)} (_hok : greyOk rows = true) : ∀ v, v < (vSt rows).n → (vSt rows).place v < tabW rows * rows.length ∧ 0 ≤ (vSt rows).born v ∧ ((vSt rows).dies v = -1 ∨ (vSt rows).born v ≤ (vSt rows).dies v) := by
  intro v hv
  have h := fold_bd (nb := nbN (tabW rows) rows.length) (ordS_pw (gF rows (tabW rows)) (tabW rows * rows.length) 100) (fun i hi => ((ordS_mem _ _ _ _).1 hi).2.1) v hv
  have h2 := (ordS_mem _ _ _ _).1 h.1
  exact ⟨h2.1, by show 0 ≤ (fold _ _ _).born v; rw [h.2.1]; exact h2.2.1, h.2.2⟩
theorem vSt_n {rows : List (List Int)} (hok : greyOk rows = true) : (vSt rows).n ≤ 256 := by
  obtain ⟨s1, s2, s3, s4⟩ := tab_sizes hok
  have h1 := fold_n (nbN (tabW rows) rows.length) (gF rows (tabW rows)) (ordS (gF rows (tabW rows)) (tabW rows * rows.length) 100)
  have h2 := nodup_le (N := tabW rows * rows.length) (ltP_nodup (ordS_pw (gF rows (tabW rows)) (tabW rows * rows.length) 100)) (fun k hk => ((ordS_mem _ _ _ _).1 hk).1)
  have h3 : tabW rows * rows.length ≤ 256 := Nat.le_trans (Nat.mul_le_mul s4 s2) (by decide)
  exact Nat.le_trans h1 (Nat.le_trans h2 h3)

set_option maxRecDepth 100000 in
set_option maxHeartbeats 4000000 in
theorem lasting_any (p : Nat) (A : Option Addr) (c : Nat) (rows : List (List Int)) (w : World) (h : GreyAt w p A c rows) (hok : greyOk rows = true) :
    Calls Try.prog 43 #[.pointer (some ⟨p, 0, none⟩)] w fun e w' => ∃ A' c' vs, e = .returned (.slice A' (lastR (vSt rows) (vSt rows).n).length c') ∧ MatAt w' w.heap.size w'.heap.size A' c' vs (lastR (vSt rows) (vSt rows).n) ∧ Below w.heap.size w w' := by
  have EX0 := Ext.more (Ext.refl w) (.cells #[] 34)
  have z1 : (w.alloc (.cells #[] 34)).heap.size = w.heap.size + 1 := by simp
  have VA := Lib.hid (valleys_any p A c rows _ _ _ (h.ext EX0) hok rfl rfl)
  have O0 := World.ownsRow_lit (e := 34) (size := 1) w #[] 0 (Nat.le_refl _) (by decide) rfl
  have BD := Lib.hid (vSt_bd hok)
  have NB := vSt_n hok
  have EV : Hid (fold (nbN (tabW rows) rows.length) (gF rows (tabW rows)) (ordS (gF rows (tabW rows)) (tabW rows * rows.length) 100) = vSt rows) := rfl
  rw [EV.out, z1] at VA
  have Z1 := Lib.hid z1
  clear h hok EV z1
  generalize vSt rows = st at *
  go_enter Try.func43, Try.ntmps43
  go_wp2_with fail
  refine VA.out.mono ?_
  rintro e w2 ⟨go, gb, RB, MO, MR, d, og, oc, B, P, Lp, rfl, hI, hb2⟩
  obtain ⟨w1, hw1⟩ : ∃ w1, w1 = w.alloc (.cells #[] 34) := ⟨_, rfl⟩
  rw [← hw1] at EX0 O0 Z1 hb2
  have O2 := own_ext (by rw [Z1.out]; exact hb2) O0
  have B2 : Below w.heap.size w w2 := EX0.trans (hb2.mono (by omega))
  have z2 := hb2.size
  rw [Z1.out] at z2
  obtain ⟨m, hm⟩ : ∃ m, st.n = m := ⟨_, rfl⟩
  have HM := Lib.hid hm
  have mB : m ≤ 256 := by rw [← hm]; exact NB
  have IVW : Hid (∀ V, Chg (fun b => b < w.heap.size + 1 ∨ w2.heap.size ≤ b) w2 V → ∀ v, v < m → V.cell? ⟨og, v, none⟩ = some (.pointer (some ⟨B v, 0, none⟩)) ∧ V.cell? ⟨B v, 0, none⟩ = some (.int .i64 (st.born v)) ∧ V.cell? ⟨B v, 1, none⟩ = some (.int .i64 ((st.place v : Nat) : Int)) ∧ V.cell? ⟨B v, 2, none⟩ = some (.int .i64 (st.dies v)) ∧ og < V.heap.size ∧ B v < V.heap.size) := fun V hV v hv => by
    rw [← hm] at hv
    have I2 := hI.chg hV (fun b hb hb2 => by have h1 := hI.lt b hb2; have h2 : b < w.heap.size + 1 ∨ w2.heap.size ≤ b := hb; omega)
    have b1 := I2.val v hv
    have c0 := b1.cell 0
    have c1 := b1.cell 1
    have c2 := b1.cell 2
    have c3 := I2.out.cellAt v (by omega)
    simp at c0 c1 c2
    rw [List.getElem?_map, List.getElem?_range hv] at c3
    exact ⟨c3, c0, c1, c2, (I2.out.lt og rfl).2, b1.lt⟩
  have M2 : MatAt w2 w.heap.size w2.heap.size (some ⟨w.heap.size, 0, none⟩) 0 [] (lastR st 0) := MatAt.nil w2 _ _ _ _ O2 (fun a ha => by cases ha; show w.heap.size < w2.heap.size; omega)
  have HB2 := Lib.hid B2
  rw [hm]
  clear hI hb2 O2 O0 EX0 hw1 Z1 hm B2 VA
  go_wp2_with fail
  go_loopw [3, 10] (fun ov kv wr => ∃ (k g c' : Nat) (vs : List Value), k ≤ m ∧ kv = .int .i64 k ∧ ov = .slice (some ⟨g, 0, none⟩) (lastR st k).length c' ∧ MatAt wr w.heap.size wr.heap.size (some ⟨g, 0, none⟩) c' vs (lastR st k) ∧ Chg (fun b => b < w.heap.size + 1 ∨ w2.heap.size ≤ b) w2 wr ∧ Below w.heap.size w wr ∧ Hid (g < w.heap.size + 1 ∨ w2.heap.size ≤ g)) (fun _ kv _ => m - (intOf kv).toNat)
  case atStart => exact ⟨0, w.heap.size, 0, [], Nat.zero_le _, rfl, rfl, M2, Chg.refl _ _, HB2.out, .inl (by omega)⟩
  case round =>
    obtain ⟨k, g, c', vs, hk, rfl, rfl, hM, hC, hB, hG⟩ := hrel
    clear M2 HB2
    by_cases hlt : k < m
    · obtain ⟨c3, c0, c1, c2, l1, l2⟩ := IVW.out wr hC k hlt
      obtain ⟨-, b0, bd⟩ := BD.out k (by rw [HM.out]; exact hlt)
      have LY := Lib.hid (lastR_yes (st := st) (k := k))
      have LN := Lib.hid (lastR_no (st := st) (k := k))
      have LL := lastR_len st k
      have i0 : (0 : Int) ≤ (k : Int) := by omega
      have i1 : (k : Int) < (m : Int) := by omega
      have wk : IntKind.i64.wrap ((k : Int) + 1) = ((k + 1 : Nat) : Int) := by rw [IntWalk.i64_in _ (by omega)]; simp
      have HM' := Lib.hid hM
      have HCB := Lib.hid (And.intro hC hB)
      have mk := HM.out
      have BND : Hid (k < st.n) := by rw [Hid, HM.out]; exact hlt
      obtain ⟨dd, hdd⟩ : ∃ dd, st.dies k = dd := ⟨_, rfl⟩
      obtain ⟨bb, hbb⟩ : ∃ bb, st.born k = bb := ⟨_, rfl⟩
      rw [hdd] at c2 bd LY LN
      rw [hbb] at c0 b0 bd LY LN
      generalize hpp : ((st.place k : Nat) : Int) = pp at *
      clear hM hC hB hdd hbb hpp mk
      go_upto_region 5 with fail
      go_cut [29] (fun c wx => c = .bool (!decide (dd = bb)) ∧ Below wr.heap.size wr wx)
      case first =>
        by_cases h0 : dd < 0
        · have t1 : decide (dd < 0) = true := decide_eq_true h0
          have RS : Hid ((!decide (dd = bb)) = true) := by rw [Hid, decide_eq_false (by omega)]; rfl
          clear LY LN bd h0
          refine wp_region_held_quiet (fun U => Below wr.heap.size wr U) (by kernel_rfl) (by kernel_rfl) (Ext.refl _).drew ?_
          have ne : Nonempty (HeldW (fun U => Below wr.heap.size wr U)) := ⟨⟨wr, Ext.refl _⟩⟩
          have v0 : ∀ i : HeldW (fun U => Below wr.heap.size wr U), i.w.cell? ⟨B k, 0, none⟩ = _ := fun i => (i.h.cell (p := ⟨B k, 0, none⟩) l2).trans c0
          have v1 : ∀ i : HeldW (fun U => Below wr.heap.size wr U), i.w.cell? ⟨B k, 2, none⟩ = _ := fun i => (i.h.cell (p := ⟨B k, 2, none⟩) l2).trans c2
          repeat (go_big_quiet_step (fail))
          refine wpQuiet_nil ?_
          intro w4 hw'
          obtain ⟨⟨_, hb4⟩, rfl⟩ := hw'
          clear ne v0 v1
          have HB4 := Lib.hid hb4
          clear hb4
          go_wp2_with fail
          go_meet
          exact ⟨by rw [RS.out], HB4.out⟩
        · have t1 : decide (dd < 0) = false := decide_eq_false h0
          obtain ⟨r, hr⟩ : ∃ r, decide (bb < dd) = r := ⟨_, rfl⟩
          have RS : Hid ((!decide (dd = bb)) = r) := by
            rw [Hid, ← hr]
            by_cases e : dd = bb
            · rw [decide_eq_true e, decide_eq_false (by omega)]; rfl
            · rw [decide_eq_false e, decide_eq_true (by omega)]; rfl
          clear LY LN bd h0
          refine wp_region_held_quiet (fun U => Below wr.heap.size wr U) (by kernel_rfl) (by kernel_rfl) (Ext.refl _).drew ?_
          have ne : Nonempty (HeldW (fun U => Below wr.heap.size wr U)) := ⟨⟨wr, Ext.refl _⟩⟩
          have v0 : ∀ i : HeldW (fun U => Below wr.heap.size wr U), i.w.cell? ⟨B k, 0, none⟩ = _ := fun i => (i.h.cell (p := ⟨B k, 0, none⟩) l2).trans c0
          have v1 : ∀ i : HeldW (fun U => Below wr.heap.size wr U), i.w.cell? ⟨B k, 2, none⟩ = _ := fun i => (i.h.cell (p := ⟨B k, 2, none⟩) l2).trans c2
          repeat (go_big_quiet_step (fail))
          refine wpQuiet_nil ?_
          intro w4 hw'
          obtain ⟨⟨_, hb4⟩, rfl⟩ := hw'
          clear ne v0 v1
          have HB4 := Lib.hid hb4
          clear hb4
          go_wp2_with fail
          go_meet
          exact ⟨by rw [RS.out, ← hr], HB4.out⟩
      case rest =>
        obtain ⟨rfl, hb4⟩ := hcut
        have B4 := HCB.out.2.trans (hb4.mono HCB.out.2.size)
        have C4 : Chg (fun b => b < w.heap.size + 1 ∨ w2.heap.size ≤ b) w2 wc := HCB.out.1.ext hb4
        have M4 := (HM'.out.ext hb4).low (Nat.le_refl _) hb4.size
        by_cases hne : dd = bb
        · have LN2 := Lib.hid (LN.out hne)
          rw [decide_eq_true hne]
          have HH := Lib.hid (And.intro M4 (And.intro C4 B4))
          clear LY LN bd hne M4 C4 B4 hb4
          go_wp2_with fail
          exact ⟨⟨k + 1, g, c', vs, by omega, by go_num, by rw [LN2.out], by rw [LN2.out]; exact HH.out.1, HH.out.2.1, HH.out.2.2, hG.out⟩, by simp [intOf]; omega⟩
        · have LY2 := Lib.hid (LY.out hne)
          rw [decide_eq_false hne]
          have d0 := (hb4.cell (p := ⟨B k, 0, none⟩) l2).trans c0
          have d1 := (hb4.cell (p := ⟨B k, 1, none⟩) l2).trans c1
          have d2 := (hb4.cell (p := ⟨B k, 2, none⟩) l2).trans c2
          have hou := M4.outer
          have lw4 : w.heap.size ≤ wc.heap.size := B4.size
          have lw5 : w2.heap.size ≤ wc.heap.size := C4.size
          have FX : Hid (∀ g5 c5 (w5 : World), w5.ownsRow w.heap.size 34 1 (.slice (some ⟨g5, 0, none⟩) ((lastR st k).length + 1) c5) ((lastR st k).length + 1) (vs ++ [.slice (some ⟨wc.heap.size, 0, none⟩) 3 3]) → World.grownBy ((wc.drew.alloc (.cells #[.int .i64 bb, .int .i64 pp, .int .i64 dd] 2)).alloc (.cells #[.slice (some ⟨wc.heap.size, 0, none⟩) 3 3] 34)) w5 (some g) → (some g = some g5 ∨ g5 = ((wc.drew.alloc (.cells #[.int .i64 bb, .int .i64 pp, .int .i64 dd] 2)).alloc (.cells #[.slice (some ⟨wc.heap.size, 0, none⟩) 3 3] 34)).heap.size) →
              MatAt w5 w.heap.size w5.heap.size (some ⟨g5, 0, none⟩) c5 (vs ++ [.slice (some ⟨wc.heap.size, 0, none⟩) 3 3]) (lastR st (k + 1)) ∧ (lastR st (k + 1)).length = (lastR st k).length + 1 ∧ Chg (fun b => b < w.heap.size + 1 ∨ w2.heap.size ≤ b) w2 w5 ∧ Below w.heap.size w w5 ∧ Hid (g5 < w.heap.size + 1 ∨ w2.heap.size ≤ g5)) := by
            intro g5 c5 w5 ho5 hg5 hat5
            have M4d := M4.ext (Ext.draw (Ext.refl wc))
            have X1 := Ext.more (Ext.draw (Ext.refl wc)) (.cells #[.int .i64 bb, .int .i64 pp, .int .i64 dd] 2)
            have X2 := Ext.more X1 (.cells #[.slice (some ⟨wc.heap.size, 0, none⟩) 3 3] 34)
            have HRW := World.ownsRow_lit (e := 2) (size := 1) wc.drew #[.int .i64 bb, .int .i64 pp, .int .i64 dd] 3 (base := wc.heap.size) (Nat.le_refl _) (by decide) rfl
            have PU := MatAt.push (r := [bb, pp, dd]) M4d (Ext.more (Ext.refl wc.drew) _) HRW lw4 (Nat.le_refl _) hg5 ho5
            rw [LY2.out]
            refine ⟨PU, by simp, ?_, (B4.trans (X2.mono lw4)).grown hg5 (by have : w.heap.size ≤ wc.drew.heap.size := lw4; simp; omega) (fun z hz => by have h1 : g = z := Option.some.inj hz; have h2 := (hou.lt g rfl).1; omega), ?_⟩
            · exact (C4.ext X2).trans ((Chg.of_rowV hg5).mono (fun b hb => by have h1 : g = b := Option.some.inj hb; rw [← h1]; exact hG.out))
            · rcases hat5 with h | h
              · rw [← Option.some.inj h]; exact hG.out
              · refine .inr ?_
                have h3 : wc.drew.heap.size = wc.heap.size := rfl
                simp at h; omega
          clear LY LN bd hne M4 C4 B4 hb4 c0 c1 c2
          go_wp2_with fail
          go_region_law (refine step_app rowT (by rfl) _ _ (by rfl) w.heap.size (.slice (some ⟨g, 0, none⟩) (lastR st k).length c') (lastR st k).length vs (by rfl) ((hou.alloc _).alloc _) (wc.heap.size + 1) #[.slice (some ⟨wc.heap.size, 0, none⟩) 3 3] (by rfl) (by have := heap_alloc_new (wc.drew.alloc (.cells #[.int .i64 bb, .int .i64 pp, .int .i64 dd] 2)) (.cells #[.slice (some ⟨wc.heap.size, 0, none⟩) 3 3] 34); rw [World.size_alloc] at this; exact this) rfl (by simp [Value.oneCell']) (by omega) (by simp; omega) ?_; intro g5 c5 w5 own5 hg5 hat5 hlt5)
          all_goals
            have F5 := Lib.hid (FX.out g5 c5 w5 own5 hg5 hat5)
            clear own5 hg5 hat5
            go_wp2_with fail
            exact ⟨⟨k + 1, g5, c5, _, by omega, by go_num, by rw [F5.out.2.1], F5.out.1, F5.out.2.2.1, F5.out.2.2.2.1, F5.out.2.2.2.2.out⟩, by simp [intOf]; omega⟩
    · obtain rfl : m = k := by omega
      have R := Lib.hid (And.intro hM hB)
      clear hM hC hB
      go_wp2_with fail
      go_ret
      exact ⟨_, c', vs, by rw [HM.out]; rfl, by rw [HM.out]; exact R.out.1, R.out.2⟩
end Go.Proofs.Ytkamkjbllmgifaa

namespace Go.Proofs.Ytkamkjbllmgifaa
open Go.RowKit

def valR (rows : List (List Int)) : List (List Int) := if greyOk rows then lastR (vSt rows) (vSt rows).n else []
def ValRes (w : World) (R : List (List Int)) (ok : Bool) (e : Ending) (w' : World) : Prop :=
  ∃ A c vs, e = .returned (.tuple #[.slice A R.length c, .bool ok]) ∧ MatAt w' w.heap.size w'.heap.size A c vs R ∧ Below w.heap.size w w'
set_option maxRecDepth 100000 in
set_option maxHeartbeats 2000000 in
theorem valleysOf_any (A : Option Addr) (c : Nat) (rows : List (List Int)) (w : World) (h : MatRd w A rows) (hn : rows.length ≤ 1000000000) (hr : ∀ i (h : i < rows.length), rows[i].length ≤ 1000000000) :
    Calls Try.prog 13 #[.agg #[.slice A rows.length c]] w (ValRes w (valR rows) (greyOk rows)) := by
  obtain ⟨wB, hwB⟩ : ∃ wB, w.alloc (.cells #[.slice A rows.length c] 26) = wB := ⟨_, rfl⟩
  have B1 : Below w.heap.size w wB := by rw [← hwB]; exact Ext.more (Ext.refl _) _
  have G1 : GreyAt wB w.heap.size A c rows := by rw [← hwB]; exact GreyAt.boxed h _
  have VG := Lib.hid (fun V (hV : Below w.heap.size w V) => validGrey_any A c rows V (h.ext hV) hn hr)
  have GX := Lib.hid (fun V (hb : Below wB.heap.size wB V) => G1.ext hb)
  have c0 := G1.cell
  cases hg : greyOk rows
  · have F2 : Hid (valR rows = []) := by rw [Hid, valR, hg]; rfl
    rw [hg] at VG
    rw [F2.out]
    clear hg hn hr h G1
    generalize rows.length = H at *
    go_enter Try.func13, Try.ntmps13
    go_wp2_with fail
    try simp only [hwB]
    refine (VG.out _ B1).mono ?_
    rintro e w2 ⟨rfl, hb⟩
    go_wp2_with fail
    go_ret2
    exact ⟨none, 0, [], rfl, MatAt.nil _ _ _ _ _ (World.ownsRow_nil _ _ _ _) (fun a ha => by cases ha), Ext.then_ B1 hb⟩
  · have F2 : Hid (valR rows = lastR (vSt rows) (vSt rows).n) := by rw [Hid, valR, hg]; rfl
    rw [hg] at VG
    have LA := Lib.hid (fun V (hV : GreyAt V w.heap.size A c rows) => lasting_any w.heap.size A c rows V hV hg)
    rw [F2.out]
    clear hg hn hr h G1
    generalize lastR (vSt rows) (vSt rows).n = R at *
    generalize hH : rows.length = H at *
    clear hH
    go_enter Try.func13, Try.ntmps13
    go_wp2_with fail
    try simp only [hwB]
    refine (VG.out _ B1).mono ?_
    rintro e w2 ⟨rfl, hb⟩
    go_wp2_with fail
    refine (LA.out _ (GX.out _ hb)).mono ?_
    rintro e w3 ⟨A3, c3, vs, rfl, hM, hb3⟩
    have B3 := Ext.then_ B1 hb
    go_wp2_with fail
    go_ret2
    exact ⟨A3, c3, vs, rfl, hM.low B3.size (Nat.le_refl _), Ext.then_ B3 hb3⟩
end Go.Proofs.Ytkamkjbllmgifaa
