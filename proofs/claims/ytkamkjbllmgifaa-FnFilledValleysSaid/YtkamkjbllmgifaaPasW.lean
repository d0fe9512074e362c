/- The reference's neighbours of a place, and the numbers of a grey picture in one row. The least heights of ways: the reference's search. The least heights of ways: the reference's search, walked. -/
import Derived.Test.YtkamkjbllmgifaaRem
namespace Go.Proofs.Ytkamkjbllmgifaa
open Go.RowKit

def stepL : List (Int × Int) := [(0, -1), (-1, 0), (1, 0), (0, 1)]
theorem stepL_ar (x y : Int) (j : Nat) (hj : j < 4) : (arL x y).getD j (0, 0) = (x + (stepL.getD j (0, 0)).1, y + (stepL.getD j (0, 0)).2) := by
  have e : j = 0 ∨ j = 1 ∨ j = 2 ∨ j = 3 := by omega
  rcases e with e | e | e | e <;> subst e <;> simp [arL, stepL] <;> rfl
theorem steps_any (w : World) : Calls Try.prog 113 #[.bool false] w fun e w' => e = .returned (.slice (some ⟨w.heap.size, 0, none⟩) 4 4) ∧ SpAt w' w.heap.size stepL ∧ Below w.heap.size w w' := by
  have S0 : SpAt (w.alloc (.cells #[.int .i64 0, .int .i64 (-1), .int .i64 (-1), .int .i64 0, .int .i64 1, .int .i64 0, .int .i64 0, .int .i64 1] 39)) w.heap.size stepL := by
    have := (Blk.made w 39 (spC stepL)).spots
    exact this
  go_enter Try.func113, Try.ntmps113
  go_wp2_with fail
  go_ret
  exact ⟨rfl, S0, Ext.more (Ext.refl _) _⟩

/-- The places of the neighbours, those of the first j steps. -/
def nearTo (W H k : Nat) (j : Nat) : List Int := (((arL ((k % W : Nat) : Int) ((k / W : Nat) : Int)).take j).filter (inG W H)).map fun p => ((plc W p : Nat) : Int)
def nearI (W H k : Nat) : List Int := nearTo W H k 4
theorem nearTo_succ (W H k j : Nat) (hj : j < 4) : nearTo W H k (j + 1) = if inG W H ((arL ((k % W : Nat) : Int) ((k / W : Nat) : Int)).getD j (0, 0)) = true then nearTo W H k j ++ [((plc W ((arL ((k % W : Nat) : Int) ((k / W : Nat) : Int)).getD j (0, 0)) : Nat) : Int)] else nearTo W H k j := by
  have hl : j < (arL ((k % W : Nat) : Int) ((k / W : Nat) : Int)).length := hj
  unfold nearTo
  rw [List.take_succ_eq_append_getElem hl, List.filter_append, List.map_append, List.getD_eq_getElem?_getD, List.getElem?_eq_getElem hl, Option.getD_some]
  generalize (arL ((k % W : Nat) : Int) ((k / W : Nat) : Int))[j] = q
  cases h : inG W H q <;> simp [h]
theorem nearTo_len (W H k : Nat) (j : Nat) : (nearTo W H k j).length ≤ 4 := by
  have h1 : (nearTo W H k j).length ≤ (arL ((k % W : Nat) : Int) ((k / W : Nat) : Int)).length := by
    unfold nearTo
    rw [List.length_map]
    exact Nat.le_trans (List.length_filter_le _ _) (by simp; omega)
  exact h1
theorem nearI_adj {W H k : Nat} (hW : 0 < W) (hk : k < W * H) {v : Int} (h : v ∈ nearI W H k) : ∃ s : Nat, v = s ∧ adj W (W * H) k s := by
  obtain ⟨e, hm⟩ := pl_eq (W := W) k hW
  have hr := pl_row hk
  unfold nearI nearTo at h
  rw [List.mem_map] at h
  obtain ⟨q, hq, rfl⟩ := h
  rw [List.mem_filter] at hq
  obtain ⟨h1, h2⟩ := hq
  refine ⟨_, rfl, ?_⟩
  have h3 : q ∈ arL ((k % W : Nat) : Int) ((k / W : Nat) : Int) := List.mem_of_mem_take h1
  obtain ⟨j, hj, rfl⟩ := List.getElem_of_mem h3
  have h4 := arL_adj (W := W) (H := H) hm hr j hj (by rw [List.getD_eq_getElem?_getD, List.getElem?_eq_getElem hj]; exact h2)
  rw [List.getD_eq_getElem?_getD, List.getElem?_eq_getElem hj, Option.getD_some, ← e] at h4
  exact h4.symm
theorem nearI_all {W H k s : Nat} (hW : 0 < W) (h : adj W (W * H) k s) : ((s : Nat) : Int) ∈ nearI W H k := by
  obtain ⟨e, hm⟩ := pl_eq (W := W) k hW
  have hr := pl_row h.1
  have h1 := h.symm
  rw [e] at h1
  obtain ⟨j, hj, h2, h3⟩ := arL_all hm hr h1
  have hl : j < (arL ((k % W : Nat) : Int) ((k / W : Nat) : Int)).length := hj
  rw [List.getD_eq_getElem?_getD, List.getElem?_eq_getElem hl, Option.getD_some] at h2 h3
  unfold nearI nearTo
  rw [List.mem_map]
  refine ⟨_, ?_, by rw [h3]⟩
  rw [List.mem_filter]
  refine ⟨?_, h2⟩
  have : (arL ((k % W : Nat) : Int) ((k / W : Nat) : Int)).take 4 = arL ((k % W : Nat) : Int) ((k / W : Nat) : Int) := List.take_of_length_le (by simp [arL])
  rw [this]
  exact List.getElem_mem _

theorem SpAt.grown {w w' : World} {g : Nat} {L : List (Int × Int)} (h : SpAt w g L) {row : Option Nat} (hg : w.grownBy w' row) (hne : some g ≠ row) : SpAt w' g L := by
  refine ⟨Nat.lt_of_lt_of_le h.1 hg.size, fun i hi => ⟨?_, ?_⟩⟩
  · exact (hg.cell_far ⟨g, _, none⟩ h.1 hne).trans (h.2 i hi).1
  · exact (hg.cell_far ⟨g, _, none⟩ h.1 hne).trans (h.2 i hi).2
set_option maxRecDepth 100000 in
set_option maxHeartbeats 2000000 in
theorem near_any (W H n k : Nat) (w : World) (hW1 : 0 < W) (hW : W ≤ 16) (hH : H ≤ 16) (hn : n = W * H) (hk : k < n) :
    Calls Try.prog 96 #[.int .i64 W, .int .i64 n, .int .i64 k] w fun e w' => ∃ A c, e = .returned (.slice A (nearI W H k).length c) ∧ w'.ownsRow w.heap.size 2 1 (.slice A (nearI W H k).length c) (nearI W H k).length (ints (nearI W H k)) ∧ Below w.heap.size w w' := by
  have hrow0 := World.ownsRow_lit (e := 2) (size := 1) w #[] 0 (Nat.le_refl _) (by decide) rfl
  have B0 : Below w.heap.size w (w.alloc (.cells #[] 2)) := Ext.more (Ext.refl _) _
  have z0 : (w.alloc (.cells #[] 2)).heap.size = w.heap.size + 1 := by simp
  have hnl : n ≤ 256 := by rw [hn]; exact Nat.le_trans (Nat.mul_le_mul hW hH) (by decide)
  obtain ⟨ek, hx⟩ := pl_eq (W := W) k hW1
  have hy : k / W < H := pl_row (by omega)
  have NS := Lib.hid (fun j hj => nearTo_succ W H k j hj)
  have NL := Lib.hid (nearTo_len W H k)
  have N0 : Hid (nearTo W H k 0 = []) := by simp [Hid, nearTo]
  have NI : Hid (nearI W H k = nearTo W H k 4) := rfl
  have m1 : (k : Int) % (W : Int) = ((k % W : Nat) : Int) := by rw [Int.natCast_emod]
  have m2 : (k : Int) / (W : Int) = ((k / W : Nat) : Int) := by rw [Int.natCast_ediv]
  have m3 : (n : Int) / (W : Int) = (H : Int) := by
    rw [hn, Int.natCast_mul, Int.mul_ediv_cancel_left _ (by omega)]
  have m4 : (k : Int).tmod (W : Int) = ((k % W : Nat) : Int) := by rw [Int.tmod_eq_emod_of_nonneg (by omega), m1]
  have m5 : (k : Int).tdiv (W : Int) = ((k / W : Nat) : Int) := by rw [Int.tdiv_eq_ediv_of_nonneg (by omega), m2]
  have m6 : (n : Int).tdiv (W : Int) = (H : Int) := by rw [Int.tdiv_eq_ediv_of_nonneg (by omega), m3]
  have SA := Lib.hid (fun j hj => stepL_ar ((k % W : Nat) : Int) ((k / W : Nat) : Int) j hj)
  have PC : Hid (∀ a b : Nat, a < W → b < H → plc W ((a : Int), (b : Int)) = b * W + a) := fun a b _ _ => by simp [plc]
  have PB : Hid (∀ a b : Nat, a < W → b < H → b * W + a < n) := fun a b h1 h2 => by rw [hn]; exact pl_lt h1 h2
  rw [NI.out]
  clear NI hn ek
  generalize k % W = x at *
  generalize k / W = y at *
  go_enter Try.func96, Try.ntmps96
  go_wp2_with fail
  generalize w.alloc (.cells #[] 2) = w0 at *
  refine (steps_any w0).mono ?_
  rintro e w1 ⟨rfl, hS, hb1⟩
  have B1 := Ext.then_ B0 hb1
  have O1 := own_ext hb1 hrow0
  rw [z0] at hS
  simp only [z0]
  clear hrow0 B0 hb1 z0
  go_wp2_with fail
  go_loopw [7, 16] (fun v i wr => ∃ j gb cb : Nat, j ≤ 4 ∧ i = .int .i64 j ∧ v = .slice (some ⟨gb, 0, none⟩) (nearTo W H k j).length cb ∧ wr.ownsRow w.heap.size 2 1 (.slice (some ⟨gb, 0, none⟩) (nearTo W H k j).length cb) (nearTo W H k j).length (ints (nearTo W H k j)) ∧ SpAt wr (w.heap.size + 1) stepL ∧ Below w.heap.size w wr ∧ gb ≠ w.heap.size + 1) (fun _ i _ => 4 - (intOf i).toNat)
  case atStart => exact ⟨0, w.heap.size, 0, by omega, rfl, by rw [N0.out]; rfl, by rw [N0.out]; exact O1, hS, B1, by omega⟩
  case round =>
    obtain ⟨j, gb, cb, hj, rfl, rfl, hown, hs, hb, hne⟩ := hrel
    clear O1 hS B1
    by_cases hjl : j < 4
    · obtain ⟨c1, c2⟩ := hs.2 j hjl
      have hsl := hs.1
      have hbz := hb.size
      have NSJ := Lib.hid (NS.out j hjl)
      have SAJ := Lib.hid (SA.out j hjl)
      have nl := NL.out j
      have st : stepL.getD j (0, 0) = stepL[j]'hjl := by rw [List.getD_eq_getElem?_getD, List.getElem?_eq_getElem hjl]; rfl
      rw [st] at SAJ
      have sb : -1 ≤ (stepL[j]'hjl).1 ∧ (stepL[j]'hjl).1 ≤ 1 ∧ -1 ≤ (stepL[j]'hjl).2 ∧ (stepL[j]'hjl).2 ≤ 1 := by
        have e : j = 0 ∨ j = 1 ∨ j = 2 ∨ j = 3 := by omega
        rcases e with e | e | e | e <;> subst e <;> simp [stepL]
      generalize stepL[j]'hjl = q at *
      obtain ⟨dx, dy⟩ := q
      simp only at c1 c2 sb SAJ
      obtain ⟨d1, d2, d3, d4⟩ := sb
      rw [SAJ.out] at NSJ
      generalize hln : (nearTo W H k j).length = ln at *
      have HLN := Lib.hid hln
      clear hln st SAJ
      have i0 : (0 : Int) ≤ (j : Int) := by omega
      have i1 : (j : Int) < 4 := by omega
      have iW : (W : Int) ≠ 0 := by omega
      have w1' : IntKind.i64.wrap ((x : Int) + dx) = (x : Int) + dx := IntWalk.i64_in _ (by omega)
      have w2' : IntKind.i64.wrap ((y : Int) + dy) = (y : Int) + dy := IntWalk.i64_in _ (by omega)
      go_wp2_with fail
      go_quiet (fail)
      go_wp2_with fail
      go_quiet (fail)
      generalize hsx : (x : Int) + dx = sx at *
      generalize hsy : (y : Int) + dy = sy at *
      have bx0 : -1 ≤ sx := by omega
      have bx1 : sx ≤ 16 := by omega
      have by0 : -1 ≤ sy := by omega
      have by1 : sy ≤ 16 := by omega
      clear c1 c2 d1 d2 d3 d4 w1' w2' hsx hsy
      cases hg1 : inB sx 0 ((W : Int) - 1)
      · have FN : Hid (nearTo W H k (j + 1) = nearTo W H k j) := by
          rw [Hid, NSJ.out, if_neg]
          intro h
          rw [inG, Bool.and_eq_true] at h
          rw [hg1] at h; cases h.1
        go_wp2_with fail
        refine (inS_any _ _ _ _).mono ?_
        rintro e w2 ⟨rfl, hw2⟩
        rw [hg1]
        have O2 : w2.ownsRow w.heap.size 2 1 (.slice (some ⟨gb, 0, none⟩) ln cb) ln (ints (nearTo W H k j)) := by rw [← hw2]; exact hown
        have S2 : SpAt w2 (w.heap.size + 1) stepL := by rw [← hw2]; exact hs
        have B2 : Below w.heap.size w w2 := by rw [← hw2]; exact Ext.drawN hb _
        clear hw2 hown hs hb hg1
        go_wp2_with fail
        go_roundw
        case rel => exact ⟨j + 1, gb, cb, by omega, by go_num, by rw [FN.out, HLN.out], by rw [FN.out, HLN.out]; exact O2, S2, B2, hne⟩
        case measure => simp [intOf]; omega
      · have hxx := inB_iff.1 hg1
        obtain ⟨a, rfl⟩ : ∃ a : Nat, sx = a := ⟨sx.toNat, by omega⟩
        go_wp2_with fail
        refine (inS_any _ _ _ _).mono ?_
        rintro e w2 ⟨rfl, hw2⟩
        rw [hg1]
        have O2 : w2.ownsRow w.heap.size 2 1 (.slice (some ⟨gb, 0, none⟩) ln cb) ln (ints (nearTo W H k j)) := by rw [← hw2]; exact hown
        have S2 : SpAt w2 (w.heap.size + 1) stepL := by rw [← hw2]; exact hs
        have B2 : Below w.heap.size w w2 := by rw [← hw2]; exact Ext.drawN hb _
        clear hw2 hown hs hb
        go_wp2_with fail
        cases hg2 : inB sy 0 ((H : Int) - 1)
        · have FN : Hid (nearTo W H k (j + 1) = nearTo W H k j) := by
            rw [Hid, NSJ.out, if_neg]
            intro h
            rw [inG, Bool.and_eq_true] at h
            rw [hg2] at h; cases h.2
          refine (inS_any _ _ _ _).mono ?_
          rintro e w3 ⟨rfl, rfl⟩
          rw [hg2]
          clear hg1 hg2
          go_wp2_with fail
          go_roundw
          case rel => exact ⟨j + 1, gb, cb, by omega, by go_num, by rw [FN.out, HLN.out], by rw [FN.out, HLN.out]; exact O2, S2, B2, hne⟩
          case measure => simp [intOf]; omega
        · have hyy := inB_iff.1 hg2
          obtain ⟨b, rfl⟩ : ∃ b : Nat, sy = b := ⟨sy.toNat, by omega⟩
          have FN : Hid (nearTo W H k (j + 1) = nearTo W H k j ++ [((b * W + a : Nat) : Int)]) := by
            rw [Hid, NSJ.out, if_pos, PC.out a b (by omega) (by omega)]
            rw [inG, hg1, hg2]; rfl
          have pb := PB.out a b (by omega) (by omega)
          refine (inS_any _ _ _ _).mono ?_
          rintro e w3 ⟨rfl, rfl⟩
          rw [hg2]
          have mu : Hid ((b : Int) * (W : Int) + (a : Int) = ((b * W + a : Nat) : Int)) := by simp [Hid]
          have mb : (b : Int) * (W : Int) ≤ 256 := by
            have : b * W ≤ 256 := by omega
            have e2 : (b : Int) * (W : Int) = ((b * W : Nat) : Int) := by simp
            rw [e2]; omega
          have mb0 : (0 : Int) ≤ (b : Int) * (W : Int) := Int.mul_nonneg (by omega) (by omega)
          clear hg1 hg2 hxx hyy
          have B2z := B2.size
          have S2z := S2.1
          go_wp2_with (at_builtin; refine wpList_app intT (by rfl) _ _ (by rfl) w.heap.size (.slice (some ⟨gb, 0, none⟩) ln cb) ln (ints (nearTo W H k j)) (by rfl) (O2.alloc _) w2.heap.size #[.int .i64 ((b : Int) * W + a)] (by rfl) (heap_alloc_new _ _) rfl (by simp [Value.oneCell']) (by omega) (by simp; omega) ?_; intro g3 cap3 w3 hown3 hgrow3 hat3 hlt3)
          have hown4 : w3.ownsRow w.heap.size 2 1 (.slice (some ⟨g3, 0, none⟩) (ln + 1) cap3) (ln + 1) (ints (nearTo W H k (j + 1))) := by
            rw [FN.out, ← mu.out]; simpa [ints] using hown3
          have S4 : SpAt w3 (w.heap.size + 1) stepL := (S2.ext (Ext.more (Ext.refl _) _)).grown hgrow3 (fun e => hne (by simpa [Value.ownBlock] using e.symm))
          have B4 : Below w.heap.size w w3 := (B2.alloc B2.size _).grown hgrow3 (by simp; omega) (fun z hz => (O2.lt z hz).1)
          have hne4 : g3 ≠ w.heap.size + 1 := by
            rcases hat3 with h | h
            · simp [Value.ownBlock] at h; omega
            · simp at h; omega
          have HL4 : Hid ((nearTo W H k (j + 1)).length = ln + 1) := by rw [Hid, FN.out, List.length_append, HLN.out]; rfl
          clear hown3 hgrow3 hat3
          go_wp2_with fail
          go_roundw
          case rel => exact ⟨j + 1, g3, cap3, by omega, by go_num, by rw [HL4.out], by rw [HL4.out]; exact hown4, S4, B4, hne4⟩
          case measure => simp [intOf]; omega
    · obtain rfl : j = 4 := by omega
      go_wp2_with fail
      go_ret
      exact ⟨_, _, rfl, hown, hb⟩
end Go.Proofs.Ytkamkjbllmgifaa

namespace Go.Proofs.Ytkamkjbllmgifaa
open Go.RowKit

def fL {α : Type} (O : Nat → α) (n : Nat) : List α := (List.range n).map O
theorem fL_length {α : Type} (O : Nat → α) (n : Nat) : (fL O n).length = n := by simp [fL]
theorem fL_get {α : Type} (O : Nat → α) (n i : Nat) (h : i < (fL O n).length) : (fL O n)[i] = O i := by simp [fL]
theorem fL_set (O : Nat → Int) (n s : Nat) (v : Int) : (fL O n).set s v = fL (setF O s v) n := by
  apply List.ext_getElem
  · simp [fL]
  · intro i h1 h2
    rw [List.getElem_set]
    by_cases e : s = i
    · subst e; rw [if_pos rfl, fL_get, setF_same]
    · rw [if_neg e, fL_get, fL_get, setF_ne (Ne.symm e)]
def mark (D : Nat → Bool) (b : Nat) : Nat → Bool := fun i => if i = b then true else D i
theorem fL_mark (D : Nat → Bool) (n s : Nat) : (fL D n).set s true = fL (mark D s) n := by
  apply List.ext_getElem
  · simp [fL]
  · intro i h1 h2
    rw [List.getElem_set]
    by_cases e : s = i
    · subst e; rw [if_pos rfl, fL_get]; simp [mark]
    · rw [if_neg e, fL_get, fL_get]; simp [mark, Ne.symm e]
def intC (L : List Int) : Array Value := (ints L).toArray
theorem intC_get (L : List Int) (i : Nat) (h : i < L.length) : (intC L)[i]? = some (.int .i64 L[i]) := by simp [intC, ints, h]
theorem intC_set (L : List Int) (i : Nat) (v : Int) : (intC L).setIfInBounds i (.int .i64 v) = intC (L.set i v) := by
  apply Array.ext'
  simp [intC, ints, List.map_set]
theorem intC_made (n : Nat) : madeCells #[Value.int .i64 0] n = intC (fL (fun _ => 0) n) := by
  apply Array.ext'
  rw [toList_madeCells_one]
  apply List.ext_getElem <;> simp [intC, ints, fL]
theorem boolC_made' (n : Nat) : madeCells #[Value.bool false] n = boolC (fL (fun _ => false) n) := by
  rw [boolC_made]
  congr 1
  apply List.ext_getElem <;> simp [fL]
/-- How many of the first n places are done. -/
def cntD (D : Nat → Bool) : Nat → Nat
  | 0 => 0
  | k + 1 => cntD D k + if D k then 1 else 0
theorem cntD_le (D : Nat → Bool) : ∀ n, cntD D n ≤ n := by
  intro n
  induction n with
  | zero => exact Nat.le_refl _
  | succ n ih => rw [cntD]; split <;> omega
theorem cntD_all (D : Nat → Bool) : ∀ n, cntD D n = n → ∀ i, i < n → D i = true := by
  intro n
  induction n with
  | zero => intro _ i h; omega
  | succ n ih =>
    intro h i hi
    have := cntD_le D n
    rw [cntD] at h
    by_cases e : D n = true
    · rw [if_pos e] at h
      by_cases e2 : i = n
      · subst e2; exact e
      · exact ih (by omega) i (by omega)
    · rw [if_neg e] at h; omega
theorem cntD_some (D : Nat → Bool) : ∀ n, (∀ i, i < n → D i = true) → cntD D n = n := by
  intro n
  induction n with
  | zero => intro _; rfl
  | succ n ih => intro h; rw [cntD, ih (fun i hi => h i (by omega)), if_pos (h n (by omega))]
theorem cntD_out (D : Nat → Bool) (b : Nat) : ∀ n, n ≤ b → cntD (mark D b) n = cntD D n := by
  intro n
  induction n with
  | zero => intro _; rfl
  | succ n ih =>
    intro h
    have e : mark D b n = D n := by simp [mark, show n ≠ b by omega]
    rw [cntD, cntD, ih (by omega), e]
theorem cntD_mark (D : Nat → Bool) (b : Nat) (hD : D b = false) : ∀ n, b < n → cntD (mark D b) n = cntD D n + 1 := by
  intro n
  induction n with
  | zero => intro h; omega
  | succ n ih =>
    intro h
    by_cases e : b = n
    · subst e
      have e1 : mark D b b = true := by simp [mark]
      rw [cntD, cntD, cntD_out D b b (Nat.le_refl _), e1, hD]
      simp
    · have e1 : mark D b n = D n := by simp [mark, show n ≠ b by omega]
      rw [cntD, cntD, ih (by omega), e1]
      omega
/-- The first of the least that are not done among the first i places. -/
def bestOk (O : Nat → Int) (D : Nat → Bool) (i : Nat) (b : Int) : Prop :=
  (b = -1 ∧ ∀ j, j < i → D j = true) ∨ ∃ k : Nat, b = k ∧ k < i ∧ D k = false ∧ ∀ j, j < i → D j = false → O k ≤ O j

theorem maxS_any' (a b : Int) (w : World) : Calls Try.prog 64 #[.int .i64 a, .int .i64 b] w fun e w' => e = .returned (.int .i64 (max a b)) ∧ w = w' := by
  by_cases h : b < a
  · have e : max a b = a := by omega
    rw [e]
    clear e
    go_enter Try.func64, Try.ntmps64
    go_wp2_with fail
    go_ret
    exact ⟨rfl, rfl⟩
  · have e : max a b = b := by omega
    rw [e]
    clear e
    go_enter Try.func64, Try.ntmps64
    go_wp2_with fail
    go_ret
    exact ⟨rfl, rfl⟩
theorem intInfo : (Try.prog.info? 2).map (fun i => (i.zero, i.size, i.bytes)) = some (some (.int .i64 0), 1, 8) := by kernel_rfl

/-- What the search holds. -/
structure PasInv (w0 : World) (lo bo bd n : Nat) (O : Nat → Int) (D : Nat → Bool) (wr : World) : Prop where
  out : Blk wr bo 2 (intC (fL O n))
  done : Blk wr bd 4 (boolC (fL D n))
  ext : Below lo w0 wr
section
variable {w0 : World} {lo bo bd n : Nat} {O : Nat → Int} {D : Nat → Bool} {wr : World}
theorem PasInv.step (h : PasInv w0 lo bo bd n O D wr) {w' : World} (hb : Below wr.heap.size wr w') (hlo : lo ≤ bo) : PasInv w0 lo bo bd n O D w' :=
  ⟨h.out.under hb h.out.lt, h.done.under hb h.done.lt, h.ext.trans (hb.mono (by have := h.out.lt; omega))⟩
theorem PasInv.drewN (h : PasInv w0 lo bo bd n O D wr) (q : Nat) : PasInv w0 lo bo bd n O D (wr.drewN q) :=
  ⟨h.out, h.done, ⟨h.ext.os, h.ext.tape, h.ext.output, h.ext.size, h.ext.block⟩⟩
theorem PasInv.o (h : PasInv w0 lo bo bd n O D wr) {i : Nat} (hi : i < n) : wr.cell? ⟨bo, i, none⟩ = some (.int .i64 (O i)) := by
  rw [h.out.cell i, intC_get _ _ (by rw [fL_length]; exact hi), fL_get]
theorem PasInv.d (h : PasInv w0 lo bo bd n O D wr) {i : Nat} (hi : i < n) : wr.cell? ⟨bd, i, none⟩ = some (.bool (D i)) := by
  rw [h.done.cell i, boolC_get _ _ (by rw [fL_length]; exact hi), fL_get]
theorem PasInv.putO (h : PasInv w0 lo bo bd n O D wr) (hlo : lo ≤ bo) (s : Nat) (v : Int) : PasInv w0 lo bo bd n (setF O s v) D (wr.setCell ⟨bo, s, none⟩ (.int .i64 v)) := by
  refine ⟨?_, h.done.apart (p := ⟨bo, s, none⟩) (fun e => h.done.ne h.out (by decide) e) _, h.ext.setCell (p := ⟨bo, s, none⟩) hlo _⟩
  have := h.out.store s (.int .i64 v)
  rwa [intC_set, fL_set] at this
theorem PasInv.putD (h : PasInv w0 lo bo bd n O D wr) (hlo : lo ≤ bd) (s : Nat) : PasInv w0 lo bo bd n O (mark D s) (wr.setCell ⟨bd, s, none⟩ (.bool true)) := by
  refine ⟨h.out.apart (p := ⟨bd, s, none⟩) (fun e => h.out.ne h.done (by decide) e) _, ?_, h.ext.setCell (p := ⟨bd, s, none⟩) hlo _⟩
  have := h.done.store s (.bool true)
  rwa [boolC_set, fL_mark] at this
end
end Go.Proofs.Ytkamkjbllmgifaa

namespace Go.Proofs.Ytkamkjbllmgifaa
open Go.RowKit

theorem ownsForm {w : World} {base : Nat} {e : TypeId} {size n c : Nat} {A : Option Addr} {xs : List Value} (h : w.ownsRow base e size (.slice A n c) n xs) (hn : 0 < n) : ∃ g cap, (Value.slice A n c) = .slice (some ⟨g, 0, none⟩) n cap := by
  rcases h.2 with ⟨_, h0⟩ | ⟨g, cap, cur, hv, _⟩
  · omega
  · exact ⟨g, cap, hv⟩
end Go.Proofs.Ytkamkjbllmgifaa
