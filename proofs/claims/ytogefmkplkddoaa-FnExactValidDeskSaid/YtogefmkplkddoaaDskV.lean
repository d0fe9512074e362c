/- Desks: the two tests of a desk. -/
import Derived.Test.YtogefmkplkddoaaDsk
namespace Go.Proofs.Ytogefmkplkddoaa
open Go.RowKit

/-- A list of pictures that a slice value reads as. -/
def PsRd (w : World) (A : Option Addr) (ps : List (List ByteArray)) : Prop :=
  0 < ps.length → ∃ g, A = some ⟨g, 0, none⟩ ∧ g < w.heap.size ∧ ∀ i (h : i < ps.length), ∃ Ai ci, w.cell? ⟨g, i, none⟩ = some (.slice Ai ps[i].length ci) ∧ Rd w Ai (strs ps[i])
theorem PsRd.ext {w w' : World} {A : Option Addr} {ps : List (List ByteArray)} (h : PsRd w A ps) (hb : Below w.heap.size w w') : PsRd w' A ps := by
  intro hn
  obtain ⟨g, e, hg, hc⟩ := h hn
  refine ⟨g, e, Nat.lt_of_lt_of_le hg hb.size, fun i hi => ?_⟩
  obtain ⟨Ai, ci, h1, h2⟩ := hc i hi
  exact ⟨Ai, ci, (hb.cell (p := ⟨g, _, none⟩) hg).trans h1, h2.ext hb⟩
theorem PsRd.drewN {w : World} {A : Option Addr} {ps : List (List ByteArray)} (h : PsRd w A ps) (k : Nat) : PsRd (w.drewN k) A ps := h

def bGe (a b : ByteArray) : Bool := !(Op.bytesLess a.toList b.toList)
def dkRow (names : List ByteArray) (ps : List (List ByteArray)) (i : Nat) : Bool := nameOk (names.getD i ByteArray.empty) && (decide (i = 0) || !(bGe (names.getD (i - 1) ByteArray.empty) (names.getD i ByteArray.empty))) && picOk (ps.getD i [])
def dkOk (names : List ByteArray) (ps : List (List ByteArray)) : Bool := decide (names.length ≤ 6) && decide (ps.length = names.length) && (List.range names.length).all (dkRow names ps)
theorem dk_long {names : List ByteArray} {ps : List (List ByteArray)} (h : 6 < names.length) : dkOk names ps = false := by
  rw [dkOk, decide_eq_false (by omega)]; rfl
theorem dk_ne {names : List ByteArray} {ps : List (List ByteArray)} (h : ps.length ≠ names.length) : dkOk names ps = false := by
  rw [dkOk, decide_eq_false h, Bool.and_false]; rfl
theorem dk_bad {names : List ByteArray} {ps : List (List ByteArray)} (i : Nat) (hi : i < names.length) (h : dkRow names ps i = false) : dkOk names ps = false := by
  rw [dkOk, show (List.range names.length).all (dkRow names ps) = false from by
    rw [List.all_eq_false]
    exact ⟨i, List.mem_range.2 hi, by simp [h]⟩, Bool.and_false]
theorem dk_yes {names : List ByteArray} {ps : List (List ByteArray)} (h1 : names.length ≤ 6) (h2 : ps.length = names.length) (h : ∀ i, i < names.length → dkRow names ps i = true) : dkOk names ps = true := by
  rw [dkOk, decide_eq_true h1, decide_eq_true h2, show (List.range names.length).all (dkRow names ps) = true from by
    rw [List.all_eq_true]
    intro i hi
    exact h i (List.mem_range.1 hi)]
  rfl
set_option maxRecDepth 100000 in
set_option maxHeartbeats 2000000 in
theorem validDeskI_any (A B : Option Addr) (c d : Nat) (names : List ByteArray) (ps : List (List ByteArray)) (w : World) (hA : Rd w A (strs names)) (hB : PsRd w B ps) (hn : names.length ≤ 1048576) (_ : ps.length ≤ 1048576) (hs : ∀ r ∈ names, r.size ≤ 1048576) (hp : ∀ p ∈ ps, p.length ≤ 1048576) :
    Calls Try.prog 25 #[.agg #[.slice A names.length c, .slice B ps.length d]] w fun e w' => e = .returned (.bool (dkOk names ps)) ∧ Below w.heap.size w w' := by
  have T0 := Blk.made w 52 #[.slice A names.length c, .slice B ps.length d]
  have B0 : Below w.heap.size w (w.alloc (.cells #[.slice A names.length c, .slice B ps.length d] 52)) := Ext.more (Ext.refl _) _
  by_cases hlong : 6 < names.length
  · have F : Hid (dkOk names ps = false) := dk_long hlong
    obtain ⟨n, hN⟩ : ∃ n, names.length = n := ⟨_, rfl⟩
    rw [hN] at hlong T0 B0 ⊢
    have q0 : (6 : Int) < (n : Int) := by omega
    clear hA hB hN hs hp hlong
    generalize ps.length = m at *
    go_enter Try.func25, Try.ntmps25
    go_wp2_with fail
    go_ret
    exact ⟨by rw [F.out]; rfl, B0⟩
  by_cases hne : ps.length = names.length
  case neg =>
    have F : Hid (dkOk names ps = false) := dk_ne hne
    obtain ⟨n, hN⟩ : ∃ n, names.length = n := ⟨_, rfl⟩
    obtain ⟨m, hM⟩ : ∃ m, ps.length = m := ⟨_, rfl⟩
    rw [hN] at hlong T0 B0 hne ⊢
    rw [hM] at T0 B0 hne ⊢
    have q0 : ¬ (6 : Int) < (n : Int) := by omega
    have q1 : ((m : Int) != (n : Int)) = true := by rw [bne_iff_ne]; omega
    clear hA hB hN hM hs hp hlong hne hn
    go_enter Try.func25, Try.ntmps25
    go_wp2_with fail
    go_ret
    exact ⟨by rw [F.out]; rfl, B0⟩
  obtain ⟨n, hN⟩ : ∃ n, names.length = n := ⟨_, rfl⟩
  have HN := Lib.hid hN
  have HM : Hid (ps.length = n) := hne.trans hN
  rw [HM.out, hN] at T0 B0 ⊢
  have n6 : n ≤ 6 := by omega
  have q0 : ¬ (6 : Int) < (n : Int) := by omega
  have q1 : ((n : Int) != (n : Int)) = false := by simp
  have YES : Hid ((∀ i, i < n → dkRow names ps i = true) → dkOk names ps = true) := fun h => dk_yes (by omega) hne (by rw [hN]; exact h)
  have BAD : Hid (∀ i, i < n → dkRow names ps i = false → dkOk names ps = false) := fun i h => dk_bad i (by omega)
  have XA := Lib.hid (fun V (hb : Below w.heap.size w V) => hA.ext hb)
  have XB := Lib.hid (fun V (hb : Below w.heap.size w V) => hB.ext hb)
  have SZ := Lib.hid hs
  have SP := Lib.hid hp
  clear hA hB hN hs hp hlong hne hn
  go_enter Try.func25, Try.ntmps25
  go_wp2_with fail
  go_loopw [3, 4, 21] (fun _ _ iv wr => ∃ k : Nat, k ≤ n ∧ iv = .int .i64 k ∧ Hid (∀ i, i < k → dkRow names ps i = true) ∧ Below w.heap.size w wr ∧ Blk wr w.heap.size 52 #[.slice A n c, .slice B n d]) (fun _ _ iv _ => n - (intOf iv).toNat)
  case atStart => exact ⟨0, Nat.zero_le _, rfl, fun _ h => absurd h (Nat.not_lt_zero _), B0, T0⟩
  case round =>
    obtain ⟨k, hk, rfl, hI, hb, hT⟩ := hrel
    clear T0 B0
    by_cases hlt : k < n
    · have hk1 : k < names.length := by have := HN.out; omega
      have hk2 : k < ps.length := by have := HM.out; omega
      obtain ⟨g, rfl, hg, hcA⟩ := (XA.out wr hb) (by simp [strs]; omega)
      obtain ⟨g', rfl, hg', hcB⟩ := (XB.out wr hb) (by omega)
      have cN := hcA k (by simpa [strs] using hk1)
      have cM := hcA (k - 1) (by simp [strs]; omega)
      obtain ⟨Ai, ci, cP, rP⟩ := hcB k hk2
      have eN : (strs names)[k]'(by simpa [strs] using hk1) = .string names[k] := by simp [strs]
      have eM : (strs names)[k - 1]'(by simp [strs]; omega) = .string (names[k - 1]'(by omega)) := by simp [strs]
      rw [eN] at cN
      rw [eM] at cM
      have R : Hid (dkRow names ps k = (nameOk names[k] && (decide (k = 0) || !(bGe (names[k - 1]'(by omega)) names[k])) && picOk ps[k])) := by
        rw [Hid, dkRow]
        simp [List.getD_eq_getElem?_getD, hk1, hk2, show k - 1 < names.length by omega]
      have sN := SZ.out names[k] (List.getElem_mem _)
      have sP := SP.out ps[k] (List.getElem_mem _)
      have IN := Lib.hid (fun V => isNameI_any names[k] V (by omega))
      have VP := Lib.hid (fun V (hV : Below wr.heap.size wr V) => validPicB_any Ai ci ps[k] V (rP.ext hV) (by omega))
      have NXT : Hid (dkRow names ps k = true → ∀ i, i < k + 1 → dkRow names ps i = true) := fun h i hi => by
        rcases Nat.lt_succ_iff_lt_or_eq.1 hi with h1 | rfl
        · exact hI.out i h1
        · exact h
      have c0 := hT.cell 0
      have c1 := hT.cell 1
      simp at c0 c1
      clear eN eM hcA hcB rP hI
      generalize names[k] = s1 at *
      generalize (names[k - 1]'(by omega)) = s0 at *
      generalize ps[k] = pk at *
      generalize picOk pk = β at *
      generalize nameOk s1 = α at *
      generalize pk.length = L at *
      have i0 : (0 : Int) ≤ (k : Int) := by omega
      have i1 : (k : Int) < (n : Int) := by omega
      cases α
      · have F : Hid (dkOk names ps = false) := BAD.out k hlt (by rw [R.out]; rfl)
        clear R NXT BAD YES cM cP
        go_wp2_with fail
        refine (IN.out _).mono ?_
        rintro e w' ⟨rfl, rfl⟩
        go_wp2_with fail
        go_ret
        exact ⟨by rw [F.out]; rfl, hb⟩
      by_cases hk0 : k = 0
      · subst hk0
        rw [decide_eq_true rfl, Bool.true_or, Bool.true_and] at R
        cases β
        · have F : Hid (dkOk names ps = false) := BAD.out 0 hlt (by rw [R.out]; rfl)
          clear R NXT BAD YES cM
          go_wp2_with fail
          refine (IN.out _).mono ?_
          rintro e w' ⟨rfl, rfl⟩
          go_wp2_with fail
          refine (VP.out _ (Ext.refl _)).mono ?_
          rintro e w2 ⟨rfl, hb2⟩
          go_wp2_with fail
          go_ret
          exact ⟨by rw [F.out]; rfl, Ext.then_ hb hb2⟩
        · have NX := Lib.hid (NXT.out (by rw [R.out]; rfl))
          have hT2 := fun V (hV : Below wr.heap.size wr V) => hT.under hV hT.lt
          clear R NXT BAD YES cM
          go_wp2_with fail
          refine (IN.out _).mono ?_
          rintro e w' ⟨rfl, rfl⟩
          go_wp2_with fail
          refine (VP.out _ (Ext.refl _)).mono ?_
          rintro e w2 ⟨rfl, hb2⟩
          go_wp2_with fail
          go_roundw
          case rel => exact ⟨1, by omega, by go_num, NX, Ext.then_ hb hb2, hT2 _ hb2⟩
          case measure => simp [intOf]; omega
      · have q2 : (0 : Int) < (k : Int) := by omega
        have q3 : (k : Int) - 1 = ((k - 1 : Nat) : Int) := by omega
        rw [decide_eq_false hk0, Bool.false_or, Bool.true_and, bGe, Bool.not_not] at R
        cases hbl : Op.bytesLess s0.toList s1.toList
        · rw [hbl] at R
          have F : Hid (dkOk names ps = false) := BAD.out k hlt (by rw [R.out]; rfl)
          clear R NXT BAD YES
          go_wp2_with fail
          refine (IN.out _).mono ?_
          rintro e w' ⟨rfl, rfl⟩
          go_wp2_with fail
          go_ret
          exact ⟨by rw [F.out]; rfl, hb⟩
        rw [hbl] at R
        cases β
        · have F : Hid (dkOk names ps = false) := BAD.out k hlt (by rw [R.out]; rfl)
          clear R NXT BAD YES
          go_wp2_with fail
          refine (IN.out _).mono ?_
          rintro e w' ⟨rfl, rfl⟩
          go_wp2_with fail
          refine (VP.out _ (Ext.refl _)).mono ?_
          rintro e w2 ⟨rfl, hb2⟩
          go_wp2_with fail
          go_ret
          exact ⟨by rw [F.out]; rfl, Ext.then_ hb hb2⟩
        · have NX := Lib.hid (NXT.out (by rw [R.out]; rfl))
          have hT2 := fun V (hV : Below wr.heap.size wr V) => hT.under hV hT.lt
          clear R NXT BAD YES
          go_wp2_with fail
          refine (IN.out _).mono ?_
          rintro e w' ⟨rfl, rfl⟩
          go_wp2_with fail
          refine (VP.out _ (Ext.refl _)).mono ?_
          rintro e w2 ⟨rfl, hb2⟩
          go_wp2_with fail
          go_roundw
          case rel => exact ⟨k + 1, by omega, by go_num, NX, Ext.then_ hb hb2, hT2 _ hb2⟩
          case measure => simp [intOf]; omega
    · obtain rfl : k = n := by omega
      have F := Lib.hid (YES.out (fun i h => hI.out i h))
      clear hI BAD
      go_wp2_with fail
      go_ret
      exact ⟨by rw [F.out]; rfl, hb⟩
set_option maxRecDepth 100000 in
set_option maxHeartbeats 2000000 in
theorem isDesk_any (p : Nat) (A B : Option Addr) (c d : Nat) (names : List ByteArray) (ps : List (List ByteArray)) (w : World) (hT : Blk w p 52 #[.slice A names.length c, .slice B ps.length d]) (hA : Rd w A (strs names)) (hB : PsRd w B ps) (hs : ∀ r ∈ names, r.size ≤ 1048576) (hp : ∀ p ∈ ps, p.length ≤ 1048576) :
    Calls Try.prog 47 #[.pointer (some ⟨p, 0, none⟩)] w fun e w' => e = .returned (.bool (dkOk names ps)) ∧ Below w.heap.size w w' := by
  have hl := hT.lt
  have c0 := hT.cell 0
  have c1 := hT.cell 1
  simp at c0 c1
  by_cases hlong : 6 < names.length
  · have F : Hid (dkOk names ps = false) := dk_long hlong
    obtain ⟨n, hN⟩ : ∃ n, names.length = n := ⟨_, rfl⟩
    rw [hN] at hlong c0
    have q0 : (6 : Int) < (n : Int) := by omega
    clear hA hB hN hs hp hlong hT
    generalize ps.length = m at *
    go_enter Try.func47, Try.ntmps47
    go_wp2_with fail
    go_quiet (fail)
    go_wp2_with fail
    go_ret
    exact ⟨by rw [F.out]; rfl, Ext.drawN (Ext.refl _) _⟩
  by_cases hne : ps.length = names.length
  case neg =>
    have F : Hid (dkOk names ps = false) := dk_ne hne
    obtain ⟨n, hN⟩ : ∃ n, names.length = n := ⟨_, rfl⟩
    obtain ⟨m, hM⟩ : ∃ m, ps.length = m := ⟨_, rfl⟩
    rw [hN] at hlong c0 hne
    rw [hM] at c1 hne
    have q0 : ¬ (6 : Int) < (n : Int) := by omega
    have q1 : ((m : Int) != (n : Int)) = true := by rw [bne_iff_ne]; omega
    clear hA hB hN hM hs hp hlong hne hT
    go_enter Try.func47, Try.ntmps47
    go_wp2_with fail
    go_quiet (fail)
    go_wp2_with fail
    go_ret
    exact ⟨by rw [F.out]; rfl, Ext.drawN (Ext.refl _) _⟩
  obtain ⟨n, hN⟩ : ∃ n, names.length = n := ⟨_, rfl⟩
  have HN := Lib.hid hN
  have HM : Hid (ps.length = n) := hne.trans hN
  rw [hN] at c0
  rw [HM.out] at c1
  have n6 : n ≤ 6 := by omega
  have q0 : ¬ (6 : Int) < (n : Int) := by omega
  have q1 : ((n : Int) != (n : Int)) = false := by simp
  have YES : Hid ((∀ i, i < n → dkRow names ps i = true) → dkOk names ps = true) := fun h => dk_yes (by omega) hne (by rw [hN]; exact h)
  have BAD : Hid (∀ i, i < n → dkRow names ps i = false → dkOk names ps = false) := fun i h => dk_bad i (by omega)
  have SZ := Lib.hid hs
  have SP := Lib.hid hp
  have HD := Lib.hid (And.intro hA (And.intro hB (And.intro c0 c1)))
  clear hA hB hN hs hp hlong hne hT
  go_enter Try.func47, Try.ntmps47
  go_wp2_with fail
  go_quiet (fail)
  go_wp2_with fail
  go_loopw [3] (fun iv wr => ∃ k j : Nat, k ≤ n ∧ iv = .int .i64 k ∧ Hid (∀ i, i < k → dkRow names ps i = true) ∧ wr = w.drewN j) (fun iv _ => n - (intOf iv).toNat)
  case atStart => exact ⟨0, nq, Nat.zero_le _, rfl, fun _ h => absurd h (Nat.not_lt_zero _), rfl⟩
  case round =>
    obtain ⟨k, j, hk, rfl, hI, hwr⟩ := hrel
    have RA : Rd wr A (strs names) := hwr ▸ HD.out.1
    have RB : PsRd wr B ps := hwr ▸ HD.out.2.1
    have c0 : wr.cell? ⟨p, 0, none⟩ = some (.slice A n c) := hwr ▸ HD.out.2.2.1
    have c1 : wr.cell? ⟨p, 1, none⟩ = some (.slice B n d) := hwr ▸ HD.out.2.2.2
    have HW := Lib.hid hwr
    clear hwr
    by_cases hlt : k < n
    · have hk1 : k < names.length := by have := HN.out; omega
      have hk2 : k < ps.length := by have := HM.out; omega
      obtain ⟨g, rfl, hg, hcA⟩ := RA (by simp [strs]; omega)
      obtain ⟨g', rfl, hg', hcB⟩ := RB (by omega)
      have cN := hcA k (by simpa [strs] using hk1)
      have cM := hcA (k - 1) (by simp [strs]; omega)
      obtain ⟨Ai, ci, cP, rP⟩ := hcB k hk2
      have eN : (strs names)[k]'(by simpa [strs] using hk1) = .string names[k] := by simp [strs]
      have eM : (strs names)[k - 1]'(by simp [strs]; omega) = .string (names[k - 1]'(by omega)) := by simp [strs]
      rw [eN] at cN
      rw [eM] at cM
      have R : Hid (dkRow names ps k = (nameOk names[k] && (decide (k = 0) || !(bGe (names[k - 1]'(by omega)) names[k])) && picOk ps[k])) := by
        rw [Hid, dkRow]
        simp [List.getD_eq_getElem?_getD, hk1, hk2, show k - 1 < names.length by omega]
      have sN := SZ.out names[k] (List.getElem_mem _)
      have sP := SP.out ps[k] (List.getElem_mem _)
      have IN := Lib.hid (fun V => (isNameS_any names[k] V (by omega)).mono (fun _ _ h => (show _ ∧ ∃ j, _ = World.drewN V j from ⟨h.1, 0, h.2.symm⟩)))
      have VP := Lib.hid (fun i => isPicO_any g' k Ai ci ps[k] (wr.drewN i) ⟨hg', cP, rP⟩ (by omega))
      have NXT : Hid (dkRow names ps k = true → ∀ i, i < k + 1 → dkRow names ps i = true) := fun h i hi => by
        rcases Nat.lt_succ_iff_lt_or_eq.1 hi with h1 | rfl
        · exact hI.out i h1
        · exact h
      clear eN eM hcA hcB rP hI RA RB
      generalize names[k] = s1 at *
      generalize (names[k - 1]'(by omega)) = s0 at *
      generalize ps[k] = pk at *
      generalize picOk pk = β at *
      generalize nameOk s1 = α at *
      generalize pk.length = L at *
      have i0 : (0 : Int) ≤ (k : Int) := by omega
      have i1 : (k : Int) < (n : Int) := by omega
      have DW : Hid (∀ i, Below w.heap.size w (wr.drewN i)) := fun i => by rw [HW.out, World.drewN_drewN]; exact Ext.drawN (Ext.refl _) _
      have DE : Hid (∀ i, wr.drewN i = w.drewN (j + i)) := fun i => by rw [HW.out, World.drewN_drewN]
      have D0 : Hid (Below w.heap.size w wr) := by rw [Hid, HW.out]; exact Ext.drawN (Ext.refl _) _
      cases α
      · have F : Hid (dkOk names ps = false) := BAD.out k hlt (by rw [R.out]; rfl)
        clear R NXT BAD YES cM cP
        go_wp2_with fail
        go_quiet ((first | (go_at_call 72; exact Calls.quiet_of (IN.out _)) | (go_at_call 40; exact Calls.quiet_of (VP.out _))))
        go_wp2_with fail
        go_ret
        exact ⟨by rw [F.out]; rfl, DW.out _⟩
      by_cases hk0 : k = 0
      · subst hk0
        rw [decide_eq_true rfl, Bool.true_or, Bool.true_and] at R
        cases β
        · have F : Hid (dkOk names ps = false) := BAD.out 0 hlt (by rw [R.out]; rfl)
          clear R NXT BAD YES cM
          go_wp2_with fail
          go_quiet ((first | (go_at_call 72; exact Calls.quiet_of (IN.out _)) | (go_at_call 40; exact Calls.quiet_of (VP.out _))))
          go_wp2_with fail
          go_ret
          exact ⟨by rw [F.out]; rfl, DW.out _⟩
        · have NX := Lib.hid (NXT.out (by rw [R.out]; rfl))
          clear R NXT BAD YES cM
          go_wp2_with fail
          go_quiet ((first | (go_at_call 72; exact Calls.quiet_of (IN.out _)) | (go_at_call 40; exact Calls.quiet_of (VP.out _))))
          go_wp2_with fail
          go_roundw
          case rel => exact ⟨1, _, by omega, by go_num, NX, DE.out _⟩
          case measure => simp [intOf]; omega
      · have q2 : (0 : Int) < (k : Int) := by omega
        have q4 : IntKind.i64.wrap ((k : Int) - 1) = ((k - 1 : Nat) : Int) := by rw [IntWalk.i64_in _ (by omega)]; omega
        have q7 : decide (0 < k) = true := by simp; omega
        have q5 : ((k - 1 : Nat) : Int) < (n : Int) := by omega
        have q6 : (0 : Int) ≤ ((k - 1 : Nat) : Int) := by omega
        rw [decide_eq_false hk0, Bool.false_or, Bool.true_and, bGe, Bool.not_not] at R
        cases hbl : Op.bytesLess s0.toList s1.toList
        · rw [hbl] at R
          have F : Hid (dkOk names ps = false) := BAD.out k hlt (by rw [R.out]; rfl)
          clear R NXT BAD YES
          go_wp2_with fail
          go_quiet ((first | (go_at_call 72; exact Calls.quiet_of (IN.out _)) | (go_at_call 40; exact Calls.quiet_of (VP.out _))))
          go_wp2_with fail
          go_ret
          exact ⟨by rw [F.out]; rfl, DW.out _⟩
        rw [hbl] at R
        cases β
        · have F : Hid (dkOk names ps = false) := BAD.out k hlt (by rw [R.out]; rfl)
          clear R NXT BAD YES
          go_wp2_with fail
          go_quiet ((first | (go_at_call 72; exact Calls.quiet_of (IN.out _)) | (go_at_call 40; exact Calls.quiet_of (VP.out _))))
          go_wp2_with fail
          go_ret
          exact ⟨by rw [F.out]; rfl, DW.out _⟩
        · have NX := Lib.hid (NXT.out (by rw [R.out]; rfl))
          clear R NXT BAD YES
          go_wp2_with fail
          go_quiet ((first | (go_at_call 72; exact Calls.quiet_of (IN.out _)) | (go_at_call 40; exact Calls.quiet_of (VP.out _))))
          go_wp2_with fail
          go_roundw
          case rel => exact ⟨k + 1, _, by omega, by go_num, NX, DE.out _⟩
          case measure => simp [intOf]; omega
    · obtain rfl : k = n := by omega
      have F := Lib.hid (YES.out (fun i h => hI.out i h))
      have D0 : Hid (Below w.heap.size w wr) := by rw [Hid, HW.out]; exact Ext.drawN (Ext.refl _) _
      clear hI BAD RA RB
      go_wp2_with fail
      go_ret
      exact ⟨by rw [F.out]; rfl, D0.out⟩
set_option maxHeartbeats 400000 in
theorem validDeskS_any (A B : Option Addr) (c d : Nat) (names : List ByteArray) (ps : List (List ByteArray)) (w : World) (hA : Rd w A (strs names)) (hB : PsRd w B ps) (hs : ∀ r ∈ names, r.size ≤ 1048576) (hp : ∀ p ∈ ps, p.length ≤ 1048576) :
    Calls Try.prog 23 #[.agg #[.slice A names.length c, .slice B ps.length d]] w fun e w' => e = .returned (.bool (dkOk names ps)) ∧ Below w.heap.size w w' := by
  have T0 := Blk.made w 52 #[.slice A names.length c, .slice B ps.length d]
  have B0 : Below w.heap.size w (w.alloc (.cells #[.slice A names.length c, .slice B ps.length d] 52)) := Ext.more (Ext.refl _) _
  have IS := Lib.hid (isDesk_any _ A B c d names ps _ T0 (hA.ext B0) (hB.ext B0) hs hp)
  clear hA hB hs hp
  generalize dkOk names ps = β at *
  generalize names.length = n at *
  generalize ps.length = m at *
  go_enter Try.func23, Try.ntmps23
  go_wp2_with fail
  refine IS.out.mono ?_
  rintro e w1 ⟨rfl, hb⟩
  go_wp2_with fail
  go_ret
  exact ⟨rfl, Ext.then_ B0 hb⟩
end Go.Proofs.Ytogefmkplkddoaa
